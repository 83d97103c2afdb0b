/- My texts P0 P1 P2 P3 P4, in one. -/
import Derived.Test.YtoepmdbicdoieaaDoorKA
import Derived.Test.YtoepmdbicdoieaaDoorED
import Derived.Test.YtoepmdbicdoieaaDoorXA
/- Package scope: names, one scope about another; lists of names. -/
namespace Go.Proofs.YtoepmdbicdoieaaDoor.P
open Go Go.Eng Go.Proofs Go.Proofs.YtoepmdbicdoieaaDoor.T Go.Proofs.YtoepmdbicdoieaaDoor.K
set_option linter.unusedSimpArgs false
set_option linter.unusedVariables false
set_option maxRecDepth 100000
set_option maxHeartbeats 2000000
abbrev one64 : Value := .int .i64 1
/-- A map of names: each name that is in it has a 1. -/
def Names (es : Array MapEntry) (own : ByteArray → Bool) : Prop := ∃ l, MapAs Value.string es l ∧ ∀ s, mget l s = if own s = true then some one64 else none
/-- A scope, and the scopes about it: which names it has. -/
inductive Scp (F : PH) : Nat → Value → (ByteArray → Bool) → Prop
  | nil : Scp F 0 (.pointer none) (fun _ => false)
  | cons {n b mb c : Nat} {es : Array MapEntry} {v : Value} {own out : ByteArray → Bool} (hb : F b = some (.cells #[.map (some mb), v] 117 (0, 0))) (hm : F mb = some (.map es c)) (he : Names es own) (ho : Scp F n v out) : Scp F (n + 1) (.pointer (some ⟨b, 0, none⟩)) (fun s => own s || out s)
theorem Scp.mono {F G : PH} (hl : F.le G) {n : Nat} {v : Value} {m : ByteArray → Bool} (h : Scp F n v m) : Scp G n v m := by
  induction h with
  | nil => exact .nil
  | cons hb hm he _ ih => exact .cons (hl _ _ hb) (hl _ _ hm) he ih
theorem Scp.ptr {F : PH} {n : Nat} {v : Value} {m : ByteArray → Bool} (h : Scp F n v m) : ∃ p, v = .pointer p := by cases h <;> exact ⟨_, rfl⟩
theorem has (F : PH) (n : Nat) (v : Value) (m : ByteArray → Bool) (s : ByteArray) (h : Scp F n v m) : PFn Tryd.prog 37 [v, .string s] F (fun r _ => r = .bool (m s)) := by
  refine Fn.intro (n := 18) (ts := [4]) Tryd.func37 rfl rfl rfl rfl (by simp) fun B hB => VC.go 100 ?_
  simp only [push_cast, ↓reduceIte, Nat.reduceEqDiff, Nat.reduceAdd, Nat.reduceMul, Nat.reduceSub, Nat.reduceLT, Nat.reduceLeDiff, reduceCtorEq, Nat.reduceMod, Int.reduceEq, Int.reduceLT, Int.reduceLE, Int.reduceToNat, dite_true]
  refine VC.loopL (ι := Nat × Value × (ByteArray → Bool)) (fun i => [(0, .v i.2.1), (1, .v (.string s))]) (fun i => Scp F i.1 i.2.1 i.2.2 ∧ i.2.2 s = m s) (fun i => i.1) (n, v, m) ⟨h, rfl⟩ (by simp [subk, Eng.look]) ?_
  rintro ⟨k, w, m1⟩ ⟨hs, hm⟩ G hG
  dsimp only at hs hm hG ⊢
  refine VC.go 100 ?_
  cases hs with
  | nil =>
    simp only [push_cast, ↓reduceIte, Nat.reduceEqDiff, Nat.reduceAdd, Nat.reduceMul, Nat.reduceSub, Nat.reduceLT, Nat.reduceLeDiff, reduceCtorEq, Nat.reduceMod, Int.reduceEq, Int.reduceLT, Int.reduceLE, Int.reduceToNat, dite_true, Option.isNone_none]
    exact RetOk.p rfl (by rw [← hm]; rfl)
  | @cons n b mb c es v own out hb hmb he ho =>
    have h0 : F.cell ((⟨b, 0, none⟩ : Addr).add 0) = some (.map (some mb)) := by rw [add_zero', cell_one hb]; rfl
    have h1 : F.cell ((⟨b, 0, none⟩ : Addr).add 1) = some v := by
      have := cell_one hb 1
      simpa [Addr.add] using this
    obtain ⟨p, rfl⟩ := ho.ptr
    simp only [push_cast, ↓reduceIte, Nat.reduceEqDiff, Nat.reduceAdd, Nat.reduceMul, Nat.reduceSub, Nat.reduceLT, Nat.reduceLeDiff, reduceCtorEq, Nat.reduceMod, Int.reduceEq, Int.reduceLT, Int.reduceLE, Int.reduceToNat, dite_true, Option.isNone_some, h0]
    obtain ⟨l, hes, hg⟩ := he
    refine Eff.lookup keyStr rfl ty67 rfl Tryd.underlying9 ty3 rfl rfl (.inl hmb) hes ?_
    by_cases hw : own s = true
    · rw [show mget l s = some one64 from by rw [hg, if_pos hw]]
      simp only [push_cast, ↓reduceIte, Nat.reduceEqDiff, Nat.reduceAdd, Nat.reduceMul, Nat.reduceSub, Nat.reduceLT, Nat.reduceLeDiff, reduceCtorEq, Nat.reduceMod, Int.reduceEq, Int.reduceLT, Int.reduceLE, Int.reduceToNat, dite_true, Option.getD_some, Bool.false_eq_true]
      exact RetOk.p rfl (by rw [← hm]; simp [rval, hw])
    · rw [show mget l s = none from by rw [hg, if_neg hw]]
      simp only [push_cast, ↓reduceIte, Nat.reduceEqDiff, Nat.reduceAdd, Nat.reduceMul, Nat.reduceSub, Nat.reduceLT, Nat.reduceLeDiff, reduceCtorEq, Nat.reduceMod, Int.reduceEq, Int.reduceLT, Int.reduceLE, Int.reduceToNat, dite_true, Option.getD_none, Bool.false_eq_true, h1]
      exact hG (n, .pointer p, out) _ ⟨ho, by rw [← hm]; simp [hw]⟩ (by simp) (by simp [subk, Eng.look]) (List.Sublist.refl _) rfl rfl
theorem withU (F : PH) (p : Option Addr) (vl : Value) (l : List ByteArray) (hl : Strs F vl l) : Eng.Fn Tryd.prog 38 [.pointer p, vl] F [] (fun r F' R' => ∃ bt mb es c, r = .pointer (some ⟨bt, 0, none⟩) ∧ R' = [cell1 bt 117 [.map (some mb), .pointer p], PH.one mb (.map es c)] ∧ Names es (hasB l)) := by
  obtain ⟨pl, cl, rfl, hl1, hl2, hl3⟩ := hl
  refine Fn.intro (n := 25) (ts := [4]) Tryd.func38 rfl rfl rfl rfl (by simp) fun B hB => VC.go 100 ?_
  simp only [push_cast, ↓reduceIte, Nat.reduceEqDiff, Nat.reduceAdd, Nat.reduceMul, Nat.reduceSub, Nat.reduceLT, Nat.reduceLeDiff, reduceCtorEq, Nat.reduceMod, Int.reduceEq, Int.reduceLT, Int.reduceLE, Int.reduceToNat, dite_true]
  refine Eff.makeMap rfl fun mb => ?_
  simp only [push_cast, ↓reduceIte, Nat.reduceEqDiff, Nat.reduceAdd, Nat.reduceMul, Nat.reduceSub, Nat.reduceLT, Nat.reduceLeDiff, reduceCtorEq, Nat.reduceMod, Int.reduceEq, Int.reduceLT, Int.reduceLE, Int.reduceToNat, dite_true]
  intro bt
  refine VC.loopP (ι := Nat × Array MapEntry × Nat) (fun i => [(14, .v (.int .i64 i.1)), (13, .v (.int .i64 l.length)), (12, .v (.slice pl l.length cl)), (5, .o 0 bt 0)]) (fun _ => F) (fun i => [PH.one mb (.map i.2.1 i.2.2)]) (fun i => i.1 ≤ l.length ∧ Names i.2.1 (hasB (l.take i.1))) (fun i => l.length - i.1) (0, #[], 0) ⟨Nat.zero_le _, [], rfl, fun s => by simp [mget, hasB]⟩ (by simp [subk, Eng.look]) rfl (subR_refl _) ?_
  rintro ⟨k, es, c⟩ ⟨hk, he⟩ G hG
  dsimp only at hk he hG ⊢
  refine VC.go 100 ?_
  by_cases h : k < l.length
  case neg =>
    have h' : ¬ (k : Int) < (l.length : Int) := by omega
    rw [List.take_of_length_le (by omega)] at he
    simp only [push_cast, ↓reduceIte, Nat.reduceEqDiff, Nat.reduceAdd, Nat.reduceMul, Nat.reduceSub, Nat.reduceLT, Nat.reduceLeDiff, reduceCtorEq, Nat.reduceMod, Int.reduceEq, Int.reduceLT, Int.reduceLE, Int.reduceToNat, dite_true, h']
    exact ⟨_, _, rfl, RetR.own (i := 0) rfl, bt, mb, es, c, rfl, rfl, he⟩
  have h' : (k : Int) < (l.length : Int) := by omega
  have h0 : (0 : Int) ≤ (k : Int) := by omega
  obtain ⟨a, rfl, ha⟩ := hl3.elem1 (i := k) (v := .string l[k]) (by simp [h])
  have e2 : IntKind.i64.wrap ((k : Int) + 1) = ((k + 1 : Nat) : Int) := wadd k h (Nat.le_trans hl1 hl2)
  simp only [push_cast, ↓reduceIte, Nat.reduceEqDiff, Nat.reduceAdd, Nat.reduceMul, Nat.reduceSub, Nat.reduceLT, Nat.reduceLeDiff, reduceCtorEq, Nat.reduceMod, Int.reduceEq, Int.reduceLT, Int.reduceLE, Int.reduceToNat, dite_true, h', h0, ha]
  obtain ⟨lst, hes, hg⟩ := he
  refine Eff.update keyStr rfl rfl ty67 rfl Tryd.underlying9 rfl rfl rfl (List.Perm.refl _) hes fun es' c' hes' => ?_
  simp only [push_cast, ↓reduceIte, Nat.reduceEqDiff, Nat.reduceAdd, Nat.reduceMul, Nat.reduceSub, Nat.reduceLT, Nat.reduceLeDiff, reduceCtorEq, Nat.reduceMod, Int.reduceEq, Int.reduceLT, Int.reduceLE, Int.reduceToNat, dite_true, e2]
  refine hG (k + 1, es', c') _ ⟨by simp; omega, _, hes', fun s => ?_⟩ (by simp; omega) (by simp [subk, Eng.look]) (List.Sublist.refl _) rfl (subR_refl _)
  rw [mget_mput, hg, List.take_succ_eq_append_getElem h, hasB_snoc]
  cases hh : hasB (l.take k) s <;> by_cases e : l[k] = s <;> simp [e]
theorem with_ (F : PH) (n : Nat) (v : Value) (m : ByteArray → Bool) (vl : Value) (l : List ByteArray) (h : Scp F n v m) (hl : Strs F vl l) : PFn Tryd.prog 38 [v, vl] F (fun r F' => Scp F' (n + 1) r (fun s => hasB l s || m s)) := by
  obtain ⟨p, rfl⟩ := h.ptr
  have h1 := withU F p vl l hl
  have h2 := Eng.Fn.mono (Q' := fun r F' R' => F.le F' ∧ ∃ bt mb es c, r = .pointer (some ⟨bt, 0, none⟩) ∧ R' = [cell1 bt 117 [.map (some mb), .pointer p], PH.one mb (.map es c)] ∧ Names es (hasB l)) h1 fun _ _ _ hF q => ⟨hF, q⟩
  have h3 := Eng.Fn.frozen (Q' := fun r F' R' => F.le F' ∧ ∃ bt mb es c, r = .pointer (some ⟨bt, 0, none⟩) ∧ F' bt = some (.cells #[.map (some mb), .pointer p] 117 (0, 0)) ∧ R' = [PH.one mb (.map es c)] ∧ Names es (hasB l)) h2
    fun r F' R' ⟨hF, bt, mb, es, c, e1, e2, e3⟩ => ⟨cell1 bt 117 [.map (some mb), .pointer p], [PH.one mb (.map es c)], by rw [e2], fun F'' k1 k2 => ⟨PH.le_trans hF k1, bt, mb, es, c, e1, k2 bt _ (PH.one_self _ _), rfl, e3⟩⟩
  exact Eng.Fn.frozen h3 fun r F' R' ⟨hF, bt, mb, es, c, e1, e2, e3, e4⟩ => ⟨PH.one mb (.map es c), [], by rw [e3], fun F'' k1 k2 => ⟨rfl, by
    subst e1
    exact .cons (k1 _ _ e2) (k2 mb _ (PH.one_self _ _)) e4 (h.mono (PH.le_trans hF k1))⟩⟩
theorem empty (F : PH) (av : Value) (a : List ByteArray) (ha : Strs F av a) : PFn Tryd.prog 77 [av] F (fun v _ => v = .bool (hasB a ⟨#[]⟩)) := by
  obtain ⟨pa, ca, rfl, ha1, ha2, ha3⟩ := ha
  refine Fn.intro (n := 14) (ts := [2]) Tryd.func77 rfl rfl rfl rfl (by simp) fun B hB => VC.go 100 ?_
  simp only [push_cast, ↓reduceIte, Nat.reduceEqDiff, Nat.reduceAdd, Nat.reduceMul, Nat.reduceSub, Nat.reduceLT, Nat.reduceLeDiff, reduceCtorEq, Nat.reduceMod, Int.reduceEq, Int.reduceLT, Int.reduceLE, Int.reduceToNat, dite_true]
  refine VC.loopL (fun i : Nat => [(7, .v (.int .i64 i)), (6, .v (.int .i64 a.length)), (5, .v (.slice pa a.length ca))]) (fun i => i ≤ a.length ∧ ¬ (⟨#[]⟩ : ByteArray) ∈ a.take i) (fun i => a.length - i) 0 ⟨Nat.zero_le _, by simp⟩ (by simp [subk, Eng.look]) ?_
  intro i ⟨hi, ht⟩ G hG
  refine VC.go 100 ?_
  by_cases h : i < a.length
  case neg =>
    have h' : ¬ (i : Int) < (a.length : Int) := by omega
    simp only [push_cast, ↓reduceIte, Nat.reduceEqDiff, Nat.reduceAdd, Nat.reduceMul, Nat.reduceSub, Nat.reduceLT, Nat.reduceLeDiff, reduceCtorEq, Nat.reduceMod, Int.reduceEq, Int.reduceLT, Int.reduceLE, Int.reduceToNat, dite_true, h']
    rw [List.take_of_length_le (by omega)] at ht
    exact RetOk.p rfl (by rw [hasB_no ht]; rfl)
  have h' : (i : Int) < (a.length : Int) := by omega
  have h0 : (0 : Int) ≤ (i : Int) := by omega
  obtain ⟨qa, rfl, hqa⟩ := ha3.elem1 (i := i) (v := .string a[i]) (by simp [h])
  have e2 : IntKind.i64.wrap ((i : Int) + 1) = ((i + 1 : Nat) : Int) := wadd i h (Nat.le_trans ha1 ha2)
  by_cases g2 : a[i] = ⟨#[]⟩
  · simp only [push_cast, ↓reduceIte, Nat.reduceEqDiff, Nat.reduceAdd, Nat.reduceMul, Nat.reduceSub, Nat.reduceLT, Nat.reduceLeDiff, reduceCtorEq, Nat.reduceMod, Int.reduceEq, Int.reduceLT, Int.reduceLE, Int.reduceToNat, dite_true, h', h0, hqa, eq_true g2]
    exact RetOk.p rfl (by
      have : (⟨#[]⟩ : ByteArray) ∈ a := g2 ▸ List.getElem_mem h
      rw [hasB_iff.2 this]; rfl)
  · simp only [push_cast, ↓reduceIte, Nat.reduceEqDiff, Nat.reduceAdd, Nat.reduceMul, Nat.reduceSub, Nat.reduceLT, Nat.reduceLeDiff, reduceCtorEq, Nat.reduceMod, Int.reduceEq, Int.reduceLT, Int.reduceLE, Int.reduceToNat, dite_true, h', h0, hqa, g2, e2]
    refine hG (i + 1) _ ⟨by omega, ?_⟩ (by omega) (by simp [subk, Eng.look]) (List.Sublist.refl _) rfl rfl
    rw [List.take_succ_eq_append_getElem h]
    simp only [List.mem_append, List.mem_singleton, not_or]
    exact ⟨ht, fun e => g2 e.symm⟩
/-- The first of n things that is like one ahead. -/
def dupAt (p : Nat → Nat → Bool) (n i : Nat) : Prop := (i < n ∧ (∃ k, k < i ∧ p i k = true) ∧ ∀ j, j < i → ∀ k, k < j → p j k = false) ∨ (i = n ∧ ∀ j, j < n → ∀ k, k < j → p j k = false)
theorem twice (F : PH) (n : Nat) (hn : n ≤ maxLen) (g : FuncId) (first cap : Array Value) (p : Nat → Nat → Bool)
    (hg : ∀ i k, i < n → k < i → ∀ F', F.le F' → PFn Tryd.prog g (first.toList ++ [.int .i64 i, .int .i64 k] ++ cap.toList) F' (fun v _ => v = .bool (p i k))) :
    PFn Tryd.prog 78 [.int .i64 n, .func (.func g) first cap] F (fun v _ => ∃ i, v = .int .i64 (i : Nat) ∧ dupAt p n i) := by
  refine Fn.intro (n := 23) (ts := [4]) Tryd.func78 rfl rfl rfl rfl (by simp) fun B hB => VC.go 100 ?_
  simp only [push_cast, ↓reduceIte, Nat.reduceEqDiff, Nat.reduceAdd, Nat.reduceMul, Nat.reduceSub, Nat.reduceLT, Nat.reduceLeDiff, reduceCtorEq, Nat.reduceMod, Int.reduceEq, Int.reduceLT, Int.reduceLE, Int.reduceToNat, dite_true]
  refine VC.loopF (ι := Nat × PH) (fun i => [(8, .v (.int .i64 i.1)), (7, .v (.int .i64 n)), (0, .v (.int .i64 n)), (1, .v (.func (.func g) first cap))]) (fun i => i.2) (fun i => i.1 ≤ n ∧ F.le i.2 ∧ ∀ j, j < i.1 → ∀ k, k < j → p j k = false) (fun i => n - i.1) (0, F) ⟨Nat.zero_le _, PH.le_refl _, fun _ h => absurd h (Nat.not_lt_zero _)⟩ (by simp [subk, Eng.look]) rfl ?_
  rintro ⟨i, F1⟩ ⟨hi, hF1, ht⟩ G hG
  dsimp only at hi hF1 ht hG ⊢
  refine VC.go 100 ?_
  by_cases h : i < n
  case neg =>
    have h' : ¬ (i : Int) < (n : Int) := by omega
    simp only [push_cast, ↓reduceIte, Nat.reduceEqDiff, Nat.reduceAdd, Nat.reduceMul, Nat.reduceSub, Nat.reduceLT, Nat.reduceLeDiff, reduceCtorEq, Nat.reduceMod, Int.reduceEq, Int.reduceLT, Int.reduceLE, Int.reduceToNat, dite_true, h']
    obtain rfl : i = n := by omega
    exact RetOk.p rfl ⟨i, rfl, .inr ⟨rfl, ht⟩⟩
  have h' : (i : Int) < (n : Int) := by omega
  have e2 : IntKind.i64.wrap ((i : Int) + 1) = ((i + 1 : Nat) : Int) := wadd i h hn
  simp only [push_cast, ↓reduceIte, Nat.reduceEqDiff, Nat.reduceAdd, Nat.reduceMul, Nat.reduceSub, Nat.reduceLT, Nat.reduceLeDiff, reduceCtorEq, Nat.reduceMod, Int.reduceEq, Int.reduceLT, Int.reduceLE, Int.reduceToNat, dite_true, h']
  refine VC.loopF (ι := Nat × PH) (fun j => [(12, .v (.int .i64 j.1)), (11, .v (.int .i64 i)), (5, .v (.int .i64 i)), (8, .v (.int .i64 i)), (7, .v (.int .i64 n)), (0, .v (.int .i64 n)), (1, .v (.func (.func g) first cap))]) (fun j => j.2) (fun j => j.1 ≤ i ∧ F1.le j.2 ∧ ∀ k, k < j.1 → p i k = false) (fun j => i - j.1) (0, F1) ⟨Nat.zero_le _, PH.le_refl _, fun _ h => absurd h (Nat.not_lt_zero _)⟩ (by simp [subk, Eng.look]) rfl ?_
  rintro ⟨k, F2⟩ ⟨hk, hF2, ht2⟩ G2 hG2
  dsimp only at hk hF2 ht2 hG2 ⊢
  refine VC.go 100 ?_
  by_cases h2 : k < i
  case neg =>
    have h2' : ¬ (k : Int) < (i : Int) := by omega
    obtain rfl : k = i := by omega
    simp only [push_cast, ↓reduceIte, Nat.reduceEqDiff, Nat.reduceAdd, Nat.reduceMul, Nat.reduceSub, Nat.reduceLT, Nat.reduceLeDiff, reduceCtorEq, Nat.reduceMod, Int.reduceEq, Int.reduceLT, Int.reduceLE, Int.reduceToNat, dite_true, h2', e2]
    refine hG (k + 1, F2) _ ⟨by simp; omega, PH.le_trans hF1 hF2, fun j hj k' hk' => ?_⟩ (by simp; omega) (by simp [subk, Eng.look]) (List.Sublist.refl _) rfl rfl
    by_cases e : j = k
    · subst e; exact ht2 k' hk'
    · exact ht j (by simp at hj; omega) k' hk'
  have h2' : (k : Int) < (i : Int) := by omega
  have e3 : IntKind.i64.wrap ((k : Int) + 1) = ((k + 1 : Nat) : Int) := wadd k (Nat.lt_trans h2 h) hn
  simp only [push_cast, ↓reduceIte, Nat.reduceEqDiff, Nat.reduceAdd, Nat.reduceMul, Nat.reduceSub, Nat.reduceLT, Nat.reduceLeDiff, reduceCtorEq, Nat.reduceMod, Int.reduceEq, Int.reduceLT, Int.reduceLE, Int.reduceToNat, dite_true, h2']
  refine CallV.pure (hg i k h h2 F2 (PH.le_trans hF1 hF2)) ?_
  rintro _ F3 hF3 rfl
  cases hp : p i k with
  | true =>
    simp only [push_cast, ↓reduceIte, Nat.reduceEqDiff, Nat.reduceAdd, Nat.reduceMul, Nat.reduceSub, Nat.reduceLT, Nat.reduceLeDiff, reduceCtorEq, Nat.reduceMod, Int.reduceEq, Int.reduceLT, Int.reduceLE, Int.reduceToNat, dite_true]
    exact RetOk.p rfl ⟨i, rfl, .inl ⟨h, ⟨k, h2, hp⟩, ht⟩⟩
  | false =>
    simp only [push_cast, ↓reduceIte, Nat.reduceEqDiff, Nat.reduceAdd, Nat.reduceMul, Nat.reduceSub, Nat.reduceLT, Nat.reduceLeDiff, reduceCtorEq, Nat.reduceMod, Int.reduceEq, Int.reduceLT, Int.reduceLE, Int.reduceToNat, dite_true, e3]
    refine hG2 (k + 1, F3) _ ⟨by simp; omega, PH.le_trans hF2 hF3, fun k' hk' => ?_⟩ (by simp; omega) (by simp [subk, Eng.look]) (List.Sublist.refl _) rfl rfl
    by_cases e : k' = k
    · subst e; exact hp
    · exact ht2 k' (by simp at hk'; omega)
end Go.Proofs.YtoepmdbicdoieaaDoor.P

/- Package scope: the first thing that is wrong; atoms. -/
namespace Go.Proofs.YtoepmdbicdoieaaDoor.P
open Go Go.Eng Go.Proofs Go.Proofs.YtoepmdbicdoieaaDoor.T Go.Proofs.YtoepmdbicdoieaaDoor.K
set_option linter.unusedSimpArgs false
set_option linter.unusedVariables false
set_option maxRecDepth 100000
set_option maxHeartbeats 2000000
/-- A scope that has the names of a list. -/
def ScpL (F : PH) (v : Value) (inn : List ByteArray) : Prop := ∃ n m, Scp F n v m ∧ ∀ s, m s = hasB inn s
theorem ScpL.mono {F G : PH} {v : Value} {inn : List ByteArray} (h : ScpL F v inn) (hl : F.le G) : ScpL G v inn := let ⟨n, m, h1, h2⟩ := h; ⟨n, m, h1.mono hl, h2⟩
theorem ScpL.ptr {F : PH} {v : Value} {inn : List ByteArray} (h : ScpL F v inn) : ∃ p, v = .pointer p := let ⟨_, _, h1, _⟩ := h; h1.ptr
theorem hasL (F : PH) (v : Value) (inn : List ByteArray) (s : ByteArray) (h : ScpL F v inn) : PFn Tryd.prog 37 [v, .string s] F (fun r _ => r = .bool (hasB inn s)) := by
  obtain ⟨n, m, h1, h2⟩ := h
  rw [← h2 s]
  exact P.has F n v m s h1
theorem hasB_append (a b : List ByteArray) (s : ByteArray) : hasB (a ++ b) s = (hasB a s || hasB b s) := by simp [hasB]
theorem withL (F : PH) (v vl : Value) (inn l : List ByteArray) (h : ScpL F v inn) (hl : Strs F vl l) : PFn Tryd.prog 38 [v, vl] F (fun r F' => ScpL F' r (inn ++ l)) := by
  obtain ⟨n, m, h1, h2⟩ := h
  exact Eng.Fn.mono (with_ F n v m vl l h1 hl) fun r F' R' _ ⟨e, q⟩ => ⟨e, _, _, q, fun s => by rw [h2, hasB_append, Bool.or_comm]⟩
/-- How the first fault lies. -/
def RepC (F : PH) (c : Ck) (v : Value) : Prop := (c = ⟨false, 0, 0⟩ ∧ v = .pointer none) ∨ ∃ a e b, c = ⟨true, a, e⟩ ∧ v = .pointer (some ⟨b, 0, none⟩) ∧ F b = some (.cells #[.int .i64 a, .int .i64 e] 121 (0, 0))
theorem RepC.mono {F G : PH} {c : Ck} {v : Value} (h : RepC F c v) (hl : F.le G) : RepC G c v := by
  rcases h with h | ⟨a, e, b, h1, h2, h3⟩
  · exact .inl h
  · exact .inr ⟨a, e, b, h1, h2, hl _ _ h3⟩
theorem RepC.one {F : PH} {c : Ck} {v : Value} (h : RepC F c v) : v.oneCell' = true := by
  rcases h with ⟨_, rfl⟩ | ⟨_, _, _, _, rfl, _⟩ <;> rfl
/-- What the methods leave. -/
abbrev SFn (f : FuncId) (args : List Value) (F : PH) (b mb : Nat) (v : Value) (c' : Ck) : Prop :=
  OFn Tryd.prog f (.pointer (some ⟨b, 0, none⟩) :: args) F b 112 [.map (some mb), v] (fun _ F' cs' => ∃ v', cs' = [.map (some mb), v'] ∧ RepC F' c' v')
theorem sret {b mb : Nat} {c' : Ck} {L : KL} {M : List Own} {F : PH} {nx : Nat} {v' : Value} (hM : ownF M 0 = some ⟨0, b, 112, [.map (some mb), v']⟩) (hr : RepC F c' v') :
    RetOk Tryd.prog [] (fun v F' R' => ∃ cs', R' = [cell1 b 112 cs'] ∧ ∃ v', cs' = [.map (some mb), v'] ∧ RepC F' c' v') ⟨L, M, F, [], nx⟩ :=
  RetOk.own (Q := fun _ F' cs' => ∃ v', cs' = [.map (some mb), v'] ∧ RepC F' c' v') 0 rfl hM ⟨v', rfl, hr⟩
theorem fail (F : PH) (b mb : Nat) (v : Value) (c : Ck) (a e : Int) (h : RepC F c v) : SFn 40 [.int .i64 a, .int .i64 e] F b mb v (failC c a e) := by
  rcases h with ⟨rfl, rfl⟩ | ⟨a', e', b', rfl, rfl, hb⟩
  · have h1 : Eng.Fn Tryd.prog 40 (.pointer (some ⟨b, 0, none⟩) :: [.int .i64 a, .int .i64 e]) F [cell1 b 112 [.map (some mb), .pointer none]] (fun _ F' R' => ∃ bf, R' = [cell1 b 112 [.map (some mb), .pointer (some ⟨bf, 0, none⟩)], cell1 bf 121 [.int .i64 a, .int .i64 e]]) := by
      refine Fn.intro (n := 18) (ts := []) Tryd.func40 rfl rfl rfl rfl (by simp) fun B hB => VC.fromR 0 (.refl _) (VC.reL [(0, .o 0 b 0), (1, .v (.int .i64 a)), (2, .v (.int .i64 e))] (by simp [subv, Eng.look, initL]) (VC.go 100 ?_))
      simp only [push_cast, ↓reduceIte, Nat.reduceEqDiff, Nat.reduceAdd, Nat.reduceMul, Nat.reduceSub, Nat.reduceLT, Nat.reduceLeDiff, reduceCtorEq, Nat.reduceMod, Int.reduceEq, Int.reduceLT, Int.reduceLE, Int.reduceToNat, dite_true, Option.isNone_none]
      intro bf
      exact ⟨_, _, rfl, RetR.two, bf, rfl⟩
    exact Eng.Fn.frozen h1 fun r F' R' ⟨bf, e1⟩ => ⟨cell1 bf 121 [.int .i64 a, .int .i64 e], [cell1 b 112 [.map (some mb), .pointer (some ⟨bf, 0, none⟩)]], by rw [e1]; exact .swap _ _ _, fun F'' k1 k2 => ⟨_, rfl, _, rfl, .inr ⟨a, e, bf, rfl, rfl, k2 bf _ (PH.one_self _ _)⟩⟩⟩
  · refine OFn.intro (n := 18) (ts := []) Tryd.func40 rfl rfl rfl rfl (by simp) fun B hB => VC.go 100 ?_
    simp only [push_cast, ↓reduceIte, Nat.reduceEqDiff, Nat.reduceAdd, Nat.reduceMul, Nat.reduceSub, Nat.reduceLT, Nat.reduceLeDiff, reduceCtorEq, Nat.reduceMod, Int.reduceEq, Int.reduceLT, Int.reduceLE, Int.reduceToNat, dite_true, Option.isNone_some]
    exact sret rfl (.inr ⟨a', e', b', rfl, rfl, hb⟩)
theorem atoms (F : PH) (b mb : Nat) (v vs va w1 we w3 : Value) (c : Ck) (e : Exp) (inn : List ByteArray) (lo hi : Int) (hr : RepC F c v) (hX : ExpAt F e va w1 we w3) (hs : ScpL F vs inn) :
    SFn 105 [.agg (expCells e va w1 we w3).toArray, vs, .int .i64 lo, .int .i64 hi] F b mb v (atomsC e.at_ inn e.atoms (whenC ((e.atoms.length : Int) < lo ∨ hi < e.atoms.length) c e.at_ 33)) := by
  obtain ⟨⟨pa, ca, rfl, ha1, ha2, ha3⟩, _, _, _⟩ := hX
  have hone := hr.one
  refine OFn.intro (n := 50) (ts := []) Tryd.func105 rfl rfl rfl rfl (by simp) fun B hB => ?_
  refine VC.go 3 ?_
  simp only [push_cast, ↓reduceIte, Nat.reduceEqDiff, Nat.reduceAdd, Nat.reduceMul, Nat.reduceSub, Nat.reduceLT, Nat.reduceLeDiff, reduceCtorEq, Nat.reduceMod, Int.reduceEq, Int.reduceLT, Int.reduceLE, Int.reduceToNat, dite_true, hone]
  intro bx
  refine VC.cutM (ι := Nat × Value × Ck × PH) (fun i => [(6, .o 1 bx 0), (2, .v vs), (0, .o 0 b 0)]) (fun i => [⟨0, b, 112, [.map (some mb), i.2.1]⟩, ⟨1, bx, 49, expCells e (.slice pa e.atoms.length ca) w1 we w3⟩]) (fun i => i.2.2.2) (fun i => F.le i.2.2.2 ∧ RepC i.2.2.2 i.2.2.1 i.2.1 ∧ i.2.2.1 = whenC ((e.atoms.length : Int) < lo ∨ hi < e.atoms.length) c e.at_ 33) ?_ ?_
  · intro G hG
    refine VC.go 100 ?_
    by_cases g1 : (e.atoms.length : Int) < lo
    · simp only [push_cast, ↓reduceIte, Nat.reduceEqDiff, Nat.reduceAdd, Nat.reduceMul, Nat.reduceSub, Nat.reduceLT, Nat.reduceLeDiff, reduceCtorEq, Nat.reduceMod, Int.reduceEq, Int.reduceLT, Int.reduceLE, Int.reduceToNat, dite_true, g1, hone]
      refine CallV.own (i := 0) rfl (fail F b mb v c e.at_ 33 hr) ?_
      rintro _ F2 _ hF2 ⟨v2, rfl, hr2⟩
      simp only [push_cast, ↓reduceIte, Nat.reduceEqDiff, Nat.reduceAdd, Nat.reduceMul, Nat.reduceSub, Nat.reduceLT, Nat.reduceLeDiff, reduceCtorEq, Nat.reduceMod, Int.reduceEq, Int.reduceLT, Int.reduceLE, Int.reduceToNat, dite_true]
      exact hG (bx, v2, failC c e.at_ 33, F2) _ ⟨hF2, hr2, by rw [whenC, if_pos (.inl g1)]⟩ (by simp [subk, Eng.look]) (List.Sublist.refl _) rfl rfl
    by_cases g2 : hi < (e.atoms.length : Int)
    · simp only [push_cast, ↓reduceIte, Nat.reduceEqDiff, Nat.reduceAdd, Nat.reduceMul, Nat.reduceSub, Nat.reduceLT, Nat.reduceLeDiff, reduceCtorEq, Nat.reduceMod, Int.reduceEq, Int.reduceLT, Int.reduceLE, Int.reduceToNat, dite_true, g1, g2, hone]
      refine CallV.own (i := 0) rfl (fail F b mb v c e.at_ 33 hr) ?_
      rintro _ F2 _ hF2 ⟨v2, rfl, hr2⟩
      simp only [push_cast, ↓reduceIte, Nat.reduceEqDiff, Nat.reduceAdd, Nat.reduceMul, Nat.reduceSub, Nat.reduceLT, Nat.reduceLeDiff, reduceCtorEq, Nat.reduceMod, Int.reduceEq, Int.reduceLT, Int.reduceLE, Int.reduceToNat, dite_true]
      exact hG (bx, v2, failC c e.at_ 33, F2) _ ⟨hF2, hr2, by rw [whenC, if_pos (.inr g2)]⟩ (by simp [subk, Eng.look]) (List.Sublist.refl _) rfl rfl
    · simp only [push_cast, ↓reduceIte, Nat.reduceEqDiff, Nat.reduceAdd, Nat.reduceMul, Nat.reduceSub, Nat.reduceLT, Nat.reduceLeDiff, reduceCtorEq, Nat.reduceMod, Int.reduceEq, Int.reduceLT, Int.reduceLE, Int.reduceToNat, dite_true, g1, g2, hone]
      exact hG (bx, v, c, F) _ ⟨PH.le_refl _, hr, by rw [whenC, if_neg (fun h => h.elim g1 g2)]⟩ (by simp [subk, Eng.look]) (List.Sublist.refl _) rfl rfl
  rintro ⟨_, v0, c0, F0⟩ ⟨hF0, hr0, hc0⟩
  dsimp only at hF0 hr0 hc0 ⊢
  rw [← hc0]
  clear hc0 hr
  refine VC.go 100 ?_
  simp only [push_cast, ↓reduceIte, Nat.reduceEqDiff, Nat.reduceAdd, Nat.reduceMul, Nat.reduceSub, Nat.reduceLT, Nat.reduceLeDiff, reduceCtorEq, Nat.reduceMod, Int.reduceEq, Int.reduceLT, Int.reduceLE, Int.reduceToNat, dite_true, hr0.one]
  refine VC.loopM (ι := Nat × Value × Ck × PH) (fun i => [(31, .v (.int .i64 i.1)), (30, .v (.int .i64 e.atoms.length)), (29, .v (.slice pa e.atoms.length ca)), (6, .o 1 bx 0), (2, .v vs), (0, .o 0 b 0)]) (fun i => [⟨0, b, 112, [.map (some mb), i.2.1]⟩, ⟨1, bx, 49, expCells e (.slice pa e.atoms.length ca) w1 we w3⟩]) (fun i => i.2.2.2) (fun i => i.1 ≤ e.atoms.length ∧ F.le i.2.2.2 ∧ RepC i.2.2.2 i.2.2.1 i.2.1 ∧ i.2.2.1 = atomsC e.at_ inn (e.atoms.take i.1) c0) (fun i => e.atoms.length - i.1) (0, v0, c0, F0) ⟨Nat.zero_le _, hF0, hr0, rfl⟩ (by simp [subk, Eng.look]) (List.Sublist.refl _) rfl ?_
  rintro ⟨k, v1, c1, F1⟩ ⟨hk, hF1, hr1, hc⟩ G hG
  dsimp only at hk hF1 hr1 hc hG ⊢
  have hone1 := hr1.one
  refine VC.go 100 ?_
  by_cases h : k < e.atoms.length
  case neg =>
    have h' : ¬ (k : Int) < (e.atoms.length : Int) := by omega
    rw [List.take_of_length_le (by omega)] at hc
    subst hc
    simp only [push_cast, ↓reduceIte, Nat.reduceEqDiff, Nat.reduceAdd, Nat.reduceMul, Nat.reduceSub, Nat.reduceLT, Nat.reduceLeDiff, reduceCtorEq, Nat.reduceMod, Int.reduceEq, Int.reduceLT, Int.reduceLE, Int.reduceToNat, dite_true, h', hone1]
    exact sret rfl hr1
  have h' : (k : Int) < (e.atoms.length : Int) := by omega
  have h0 : (0 : Int) ≤ (k : Int) := by omega
  obtain ⟨a, rfl, ha⟩ := (ha3.mono hF1).elem h (by decide)
  rw [atomVals_at _ _ h] at ha
  have e2 : IntKind.i64.wrap ((k : Int) + 1) = ((k + 1 : Nat) : Int) := wadd k h (Nat.le_trans ha1 ha2)
  have ht : atomsC e.at_ inn (e.atoms.take (k + 1)) c0 = stepA e.at_ inn c1 e.atoms[k] := by rw [List.take_succ_eq_append_getElem h, atomsC_snoc, hc]
  by_cases g : (e.atoms[k]).1 = ⟨#[]⟩
  · simp only [push_cast, ↓reduceIte, Nat.reduceEqDiff, Nat.reduceAdd, Nat.reduceMul, Nat.reduceSub, Nat.reduceLT, Nat.reduceLeDiff, reduceCtorEq, Nat.reduceMod, Int.reduceEq, Int.reduceLT, Int.reduceLE, Int.reduceToNat, dite_true, h', h0, ha, hone1, eq_true g, e2]
    intro b7
    refine hG (k + 1, v1, c1, F1) _ ⟨by simp; omega, hF1, hr1, ?_⟩ (by simp; omega) (by simp [subk, Eng.look]) (by simp) rfl rfl
    rw [ht]; simp [stepA, whenC, g]
  simp only [push_cast, ↓reduceIte, Nat.reduceEqDiff, Nat.reduceAdd, Nat.reduceMul, Nat.reduceSub, Nat.reduceLT, Nat.reduceLeDiff, reduceCtorEq, Nat.reduceMod, Int.reduceEq, Int.reduceLT, Int.reduceLE, Int.reduceToNat, dite_true, h', h0, ha, hone1, g]
  intro b7
  refine CallV.pure (hasL F1 vs inn (e.atoms[k]).1 (hs.mono hF1)) ?_
  rintro _ F2 hF2 rfl
  cases hh : hasB inn (e.atoms[k]).1 with
  | true =>
    simp only [push_cast, ↓reduceIte, Nat.reduceEqDiff, Nat.reduceAdd, Nat.reduceMul, Nat.reduceSub, Nat.reduceLT, Nat.reduceLeDiff, reduceCtorEq, Nat.reduceMod, Int.reduceEq, Int.reduceLT, Int.reduceLE, Int.reduceToNat, dite_true, e2]
    refine hG (k + 1, v1, c1, F2) _ ⟨by simp; omega, PH.le_trans hF1 hF2, hr1.mono hF2, ?_⟩ (by simp; omega) (by simp [subk, Eng.look]) (by simp) rfl rfl
    rw [ht]; simp [stepA, whenC, hh]
  | false =>
    simp only [push_cast, ↓reduceIte, Nat.reduceEqDiff, Nat.reduceAdd, Nat.reduceMul, Nat.reduceSub, Nat.reduceLT, Nat.reduceLeDiff, reduceCtorEq, Nat.reduceMod, Int.reduceEq, Int.reduceLT, Int.reduceLE, Int.reduceToNat, dite_true, hone1]
    refine CallV.own (i := 0) rfl (fail F2 b mb v1 c1 e.at_ 31 (hr1.mono hF2)) ?_
    rintro _ F3 _ hF3 ⟨v3, rfl, hr3⟩
    simp only [push_cast, ↓reduceIte, Nat.reduceEqDiff, Nat.reduceAdd, Nat.reduceMul, Nat.reduceSub, Nat.reduceLT, Nat.reduceLeDiff, reduceCtorEq, Nat.reduceMod, Int.reduceEq, Int.reduceLT, Int.reduceLE, Int.reduceToNat, dite_true, e2]
    refine hG (k + 1, v3, failC c1 e.at_ 31, F3) _ ⟨by simp; omega, PH.le_trans hF1 (PH.le_trans hF2 hF3), hr3, ?_⟩ (by simp; omega) (by simp [subk, Eng.look]) (by simp) rfl rfl
    rw [ht]; simp [stepA, whenC, g, hh]
end Go.Proofs.YtoepmdbicdoieaaDoor.P

/- Package prim: which primitive a name is, and how many arguments it has; two names of a list. -/
namespace Go.Proofs.YtoepmdbicdoieaaDoor.P
open Go Go.Eng Go.Proofs Go.Proofs.YtoepmdbicdoieaaDoor.T Go.Proofs.YtoepmdbicdoieaaDoor.K
set_option linter.unusedSimpArgs false
set_option linter.unusedVariables false
set_option maxRecDepth 100000
set_option maxHeartbeats 2000000
def tnames : List ByteArray := bs [] :: pnames
def tars : List (Int × Int × Int × Int) := [(0, 0, 0, 0), (2, 2, 2, 0), (2, 2, 2, 0), (2, 2, 2, 0), (2, 2, 2, 0), (2, 2, 2, 0), (2, 2, 2, 0), (2, 2, 2, 0), (1, 2, 0, 0), (2, 1, 0, 0), (1, 0, 0, 0), (1, 3, 0, 0), (2, 3, 0, 0), (2, 2, 0, 0), (2, 4, 2, 0), (3, 4, 2, 0), (1, 4, 0, 0)]
def tname (i : Nat) : ByteArray := tnames.getD i (bs [])
def tar (i : Nat) : Int × Int × Int × Int := tars.getD i (0, 0, 0, 0)
abbrev rowC (i : Nat) : List Value := [.string (tname i), .int .i64 (tar i).1, .int .i64 (tar i).2.1, .int .i64 (tar i).2.2.1, .int .i64 (tar i).2.2.2]
/-- The table of primitives lies where it was laid. -/
def Table (F : PH) : Prop := ∀ i, i < 17 → F.cells ((⟨0, 0, none⟩ : Addr).add (i * 5)) 5 = some (rowC i)
theorem Table.mono {F G : PH} (h : Table F) (hl : F.le G) : Table G := fun i hi => hl.cells (h i hi)
abbrev zrow : List Value := [.string (bs []), .int .i64 0, .int .i64 0, .int .i64 0, .int .i64 0]
theorem row_eqs : (List.range 17).map (fun i => sEq Tryd.prog 181 (rowC i).toArray zrow.toArray) = (List.range 17).map (fun i => some (decide (i = 0))) := by kernel_rfl
theorem row_eq (i : Nat) (h : i < 17) : sEq Tryd.prog 181 (rowC i).toArray zrow.toArray = some (decide (i = 0)) := by
  have := congrArg (fun l => l[i]?) row_eqs
  simpa only [List.getElem?_map, List.getElem?_range h, Option.map_some, Option.some.injEq] using this
theorem tname_succ (i : Nat) (h : i < pnames.length) : tname (i + 1) = pnames[i] := by
  simp [tname, tnames, h]
theorem find (F : PH) (s : ByteArray) (hT : Table F) : PFn Tryd.prog 84 [.string s] F (fun v _ => v = .int .i64 (findP s)) := by
  refine Fn.intro (n := 22) (ts := [2]) Tryd.func84 rfl rfl rfl rfl (by simp) fun B hB => VC.go 100 ?_
  simp only [push_cast, ↓reduceIte, Nat.reduceEqDiff, Nat.reduceAdd, Nat.reduceMul, Nat.reduceSub, Nat.reduceLT, Nat.reduceLeDiff, reduceCtorEq, Nat.reduceMod, Int.reduceEq, Int.reduceLT, Int.reduceLE, Int.reduceToNat, dite_true]
  refine VC.loopL (fun i : Nat => [(4, .v (.int .i64 i)), (0, .v (.string s))]) (fun i => i ≤ 17 ∧ ∀ j, ∀ h : j < pnames.length, j + 1 < i → pnames[j] ≠ s) (fun i => 17 - i) 0 ⟨Nat.zero_le _, fun _ _ h => absurd h (by omega)⟩ (by simp [subk, Eng.look]) ?_
  intro i ⟨hi, ht⟩ G hG
  refine VC.go 100 ?_
  by_cases h : i < 17
  case neg =>
    have h' : ¬ (i : Int) < 17 := by omega
    simp only [push_cast, ↓reduceIte, Nat.reduceEqDiff, Nat.reduceAdd, Nat.reduceMul, Nat.reduceSub, Nat.reduceLT, Nat.reduceLeDiff, reduceCtorEq, Nat.reduceMod, Int.reduceEq, Int.reduceLT, Int.reduceLE, Int.reduceToNat, dite_true, h']
    refine RetOk.p rfl ?_
    have : pnames.findIdx? (fun p => decide (p = s)) = none := by
      rw [List.findIdx?_eq_none_iff]
      intro x hx
      obtain ⟨j, hj, rfl⟩ := List.getElem_of_mem hx
      simpa using ht j hj (by have : j < 16 := hj; omega)
    simp [findP, this, rval]
  have h' : (i : Int) < 17 := by omega
  have h0 : (0 : Int) ≤ (i : Int) := by omega
  have e2 : IntKind.i64.wrap ((i : Int) + 1) = ((i + 1 : Nat) : Int) := by rw [IntWalk.i64_in _ (by omega)]; simp
  have hk := hT i h
  have hk0 := cell_at hk (o := 0) rfl
  have ha := row_eq i h
  rw [show zrow.toArray = (#[.string ⟨#[]⟩, .int .i64 0, .int .i64 0, .int .i64 0, .int .i64 0] : Array Value) from rfl] at ha
  by_cases g0 : i = 0
  · rw [show decide (i = 0) = true from by simp [g0]] at ha
    simp only [push_cast, ↓reduceIte, Nat.reduceEqDiff, Nat.reduceAdd, Nat.reduceMul, Nat.reduceSub, Nat.reduceLT, Nat.reduceLeDiff, reduceCtorEq, Nat.reduceMod, Int.reduceEq, Int.reduceLT, Int.reduceLE, Int.reduceToNat, dite_true, Int.reduceAdd, h', h0, hk, hk0, ha, e2]
    exact hG (i + 1) _ ⟨by omega, fun j hj hlt => absurd hlt (by omega)⟩ (by omega) (by simp [subk, Eng.look]) (List.Sublist.refl _) rfl rfl
  rw [show decide (i = 0) = false from by simp [g0]] at ha
  have hp : i - 1 < pnames.length := by have : pnames.length = 16 := rfl; omega
  have hn : tname i = pnames[i - 1] := by
    have := tname_succ (i - 1) hp
    rw [show i - 1 + 1 = i from by omega] at this
    exact this
  by_cases g : tname i = s
  · simp only [push_cast, ↓reduceIte, Nat.reduceEqDiff, Nat.reduceAdd, Nat.reduceMul, Nat.reduceSub, Nat.reduceLT, Nat.reduceLeDiff, reduceCtorEq, Nat.reduceMod, Int.reduceEq, Int.reduceLT, Int.reduceLE, Int.reduceToNat, dite_true, Int.reduceAdd, h', h0, hk, hk0, ha, eq_true g]
    refine RetOk.p rfl ?_
    have : pnames.findIdx? (fun p => decide (p = s)) = some (i - 1) := by
      rw [List.findIdx?_eq_some_iff_getElem]
      exact ⟨hp, by simpa [← hn] using g, fun j hj => by simpa using ht j (Nat.lt_trans hj hp) (by omega)⟩
    have e3 : (((i - 1 : Nat) : Int) + 1) = (i : Int) := by omega
    simp only [findP, this, rval, e3]
    rfl
  · simp only [push_cast, ↓reduceIte, Nat.reduceEqDiff, Nat.reduceAdd, Nat.reduceMul, Nat.reduceSub, Nat.reduceLT, Nat.reduceLeDiff, reduceCtorEq, Nat.reduceMod, Int.reduceEq, Int.reduceLT, Int.reduceLE, Int.reduceToNat, dite_true, Int.reduceAdd, h', h0, hk, hk0, ha, g, e2]
    refine hG (i + 1) _ ⟨by omega, fun j hj hlt => ?_⟩ (by omega) (by simp [subk, Eng.look]) (List.Sublist.refl _) rfl rfl
    by_cases e : j = i - 1
    · subst e; rw [← hn]; exact g
    · exact ht j hj (by omega)
theorem of_ (F : PH) (n : Int) (hT : Table F) : PFn Tryd.prog 122 [.int .i64 n] F (fun v _ => ∃ s a b c, v = .agg #[.string s, .int .i64 (arityP n), a, b, c] ∧ a.oneCell' = true ∧ b.oneCell' = true ∧ c.oneCell' = true) := by
  refine Fn.intro (n := 13) (ts := [.cell 2 181]) Tryd.func122 rfl rfl rfl rfl (by simp) fun B hB => VC.go 100 ?_
  by_cases g1 : n < 1
  · simp only [push_cast, ↓reduceIte, Nat.reduceEqDiff, Nat.reduceAdd, Nat.reduceMul, Nat.reduceSub, Nat.reduceLT, Nat.reduceLeDiff, reduceCtorEq, Nat.reduceMod, Int.reduceEq, Int.reduceLT, Int.reduceLE, Int.reduceToNat, dite_true, g1]
    intro b
    refine ⟨[_], [], (by simp only [push_cast, ↓reduceIte, Nat.reduceEqDiff, Nat.reduceAdd, Nat.reduceMul, Nat.reduceSub, Nat.reduceLT, Nat.reduceLeDiff, reduceCtorEq, Nat.reduceMod, Int.reduceEq, Int.reduceLT, Int.reduceLE, Int.reduceToNat, dite_true, rvals, rval1]; rfl), .sub (List.nil_sublist _), rfl, ?_⟩
    exact ⟨_, _, _, _, by rw [arityP, if_pos (.inl g1)]; rfl, rfl, rfl, rfl⟩
  by_cases g2 : 17 ≤ n
  · simp only [push_cast, ↓reduceIte, Nat.reduceEqDiff, Nat.reduceAdd, Nat.reduceMul, Nat.reduceSub, Nat.reduceLT, Nat.reduceLeDiff, reduceCtorEq, Nat.reduceMod, Int.reduceEq, Int.reduceLT, Int.reduceLE, Int.reduceToNat, dite_true, g1, g2]
    intro b
    refine ⟨[_], [], (by simp only [push_cast, ↓reduceIte, Nat.reduceEqDiff, Nat.reduceAdd, Nat.reduceMul, Nat.reduceSub, Nat.reduceLT, Nat.reduceLeDiff, reduceCtorEq, Nat.reduceMod, Int.reduceEq, Int.reduceLT, Int.reduceLE, Int.reduceToNat, dite_true, rvals, rval1]; rfl), .sub (List.nil_sublist _), rfl, ?_⟩
    exact ⟨_, _, _, _, by rw [arityP, if_pos (.inr (by omega))]; rfl, rfl, rfl, rfl⟩
  · have h0 : 0 ≤ n := by omega
    have h1 : n < 17 := by omega
    have hk := hT n.toNat (by omega)
    simp only [push_cast, ↓reduceIte, Nat.reduceEqDiff, Nat.reduceAdd, Nat.reduceMul, Nat.reduceSub, Nat.reduceLT, Nat.reduceLeDiff, reduceCtorEq, Nat.reduceMod, Int.reduceEq, Int.reduceLT, Int.reduceLE, Int.reduceToNat, dite_true, Int.reduceAdd, g1, g2, h0, h1, hk]
    intro b
    have ha : arityP n = (tar n.toNat).1 := by
      obtain ⟨m, rfl⟩ : ∃ m : Nat, n = m := ⟨n.toNat, by omega⟩
      have hm : m < 17 := by omega
      match m, hm with
      | 0, h => omega
      | 1, _ | 2, _ | 3, _ | 4, _ | 5, _ | 6, _ | 7, _ | 8, _ | 9, _ | 10, _ | 11, _ | 12, _ | 13, _ | 14, _ | 15, _ | 16, _ => rfl
      | m + 17, h => omega
    refine ⟨[_], [], (by simp only [push_cast, ↓reduceIte, Nat.reduceEqDiff, Nat.reduceAdd, Nat.reduceMul, Nat.reduceSub, Nat.reduceLT, Nat.reduceLeDiff, reduceCtorEq, Nat.reduceMod, Int.reduceEq, Int.reduceLT, Int.reduceLE, Int.reduceToNat, dite_true, rvals, rval1]; rfl), .sub (List.nil_sublist _), rfl, ?_⟩
    rw [ha]
    exact ⟨_, _, _, _, rfl, rfl, rfl, rfl⟩
theorem arityPrim (F : PH) (n : Int) (hT : Table F) : PFn Tryd.prog 106 [.int .i64 n] F (fun v _ => v = .int .i64 (arityP n)) := by
  refine Fn.intro (n := 6) (ts := [2]) Tryd.func106 rfl rfl rfl rfl (by simp) fun B hB => VC.go 100 ?_
  simp only [push_cast, ↓reduceIte, Nat.reduceEqDiff, Nat.reduceAdd, Nat.reduceMul, Nat.reduceSub, Nat.reduceLT, Nat.reduceLeDiff, reduceCtorEq, Nat.reduceMod, Int.reduceEq, Int.reduceLT, Int.reduceLE, Int.reduceToNat, dite_true]
  refine CallV.pure (of_ F n hT) ?_
  rintro _ F2 hF2 ⟨s, a, b, c, rfl, ha, hb, hc⟩
  simp only [push_cast, ↓reduceIte, Nat.reduceEqDiff, Nat.reduceAdd, Nat.reduceMul, Nat.reduceSub, Nat.reduceLT, Nat.reduceLeDiff, reduceCtorEq, Nat.reduceMod, Int.reduceEq, Int.reduceLT, Int.reduceLE, Int.reduceToNat, dite_true]
  exact RetOk.p rfl rfl
/-! Two of a list -/
theorem like_form (F : PH) (b : Nat) (v : Value) (l : List ByteArray) (hb : F.cell ⟨b, 0, none⟩ = some v) (hl : Strs F v l) (i k : Nat) (hi : i < l.length) (hk : k < i) :
    PFn Tryd.prog 79 [.int .i64 i, .int .i64 k, .pointer (some ⟨b, 0, none⟩)] F (fun r _ => r = .bool (decide (l.getD i (bs []) = l.getD k (bs [])))) := by
  obtain ⟨p, c, rfl, h1, h2, h3⟩ := hl
  have hkl : k < l.length := by omega
  have a1 : (i : Int) < (l.length : Int) := by omega
  have a2 : (0 : Int) ≤ (i : Int) := by omega
  have a3 : (k : Int) < (l.length : Int) := by omega
  have a4 : (0 : Int) ≤ (k : Int) := by omega
  obtain ⟨q, rfl, hq⟩ := h3.elem1 (i := i) (v := .string l[i]) (by simp [hi])
  obtain ⟨_, e, hq2⟩ := h3.elem1 (i := k) (v := .string l[k]) (by simp [hkl])
  cases e
  refine Fn.intro (n := 15) (ts := [5]) Tryd.func79 rfl rfl rfl rfl (by simp) fun B hB => VC.go 100 ?_
  simp only [push_cast, ↓reduceIte, Nat.reduceEqDiff, Nat.reduceAdd, Nat.reduceMul, Nat.reduceSub, Nat.reduceLT, Nat.reduceLeDiff, reduceCtorEq, Nat.reduceMod, Int.reduceEq, Int.reduceLT, Int.reduceLE, Int.reduceToNat, dite_true]
  refine VC.draw (.q 0 (.q 1 (.q 2 (.q 3 (.q 4 (.q 5 (.q 6 (.q 7 (.q 8 (.q 9 (.done))))))))))) mixed (by rfl) ?_
  simp only [push_cast, ↓reduceIte, Nat.reduceEqDiff, Nat.reduceAdd, Nat.reduceMul, Nat.reduceSub, Nat.reduceLT, Nat.reduceLeDiff, reduceCtorEq, Nat.reduceMod, Int.reduceEq, Int.reduceLT, Int.reduceLE, Int.reduceToNat, dite_true, hb, a1, a2, a3, a4, hq, hq2]
  refine VC.go 100 ?_
  simp only [push_cast, ↓reduceIte, Nat.reduceEqDiff, Nat.reduceAdd, Nat.reduceMul, Nat.reduceSub, Nat.reduceLT, Nat.reduceLeDiff, reduceCtorEq, Nat.reduceMod, Int.reduceEq, Int.reduceLT, Int.reduceLE, Int.reduceToNat, dite_true]
  exact RetOk.p rfl (by simp [rval, List.getD, hi, hkl])
theorem like_alt (F : PH) (b : Nat) (v : Value) (l : List ByteArray) (hb : F.cell ⟨b, 0, none⟩ = some v) (hl : Strs F v l) (i k : Nat) (hi : i < l.length) (hk : k < i) :
    PFn Tryd.prog 134 [.int .i64 i, .int .i64 k, .pointer (some ⟨b, 0, none⟩)] F (fun r _ => r = .bool (decide (l.getD i (bs []) = l.getD k (bs [])))) := by
  obtain ⟨p, c, rfl, h1, h2, h3⟩ := hl
  have hkl : k < l.length := by omega
  have a1 : (i : Int) < (l.length : Int) := by omega
  have a2 : (0 : Int) ≤ (i : Int) := by omega
  have a3 : (k : Int) < (l.length : Int) := by omega
  have a4 : (0 : Int) ≤ (k : Int) := by omega
  obtain ⟨q, rfl, hq⟩ := h3.elem1 (i := i) (v := .string l[i]) (by simp [hi])
  obtain ⟨_, e, hq2⟩ := h3.elem1 (i := k) (v := .string l[k]) (by simp [hkl])
  cases e
  refine Fn.intro (n := 15) (ts := [5]) Tryd.func134 rfl rfl rfl rfl (by simp) fun B hB => VC.go 100 ?_
  simp only [push_cast, ↓reduceIte, Nat.reduceEqDiff, Nat.reduceAdd, Nat.reduceMul, Nat.reduceSub, Nat.reduceLT, Nat.reduceLeDiff, reduceCtorEq, Nat.reduceMod, Int.reduceEq, Int.reduceLT, Int.reduceLE, Int.reduceToNat, dite_true]
  refine VC.draw (.q 0 (.q 1 (.q 2 (.q 3 (.q 4 (.q 5 (.q 6 (.q 7 (.q 8 (.q 9 (.done))))))))))) mixed (by rfl) ?_
  simp only [push_cast, ↓reduceIte, Nat.reduceEqDiff, Nat.reduceAdd, Nat.reduceMul, Nat.reduceSub, Nat.reduceLT, Nat.reduceLeDiff, reduceCtorEq, Nat.reduceMod, Int.reduceEq, Int.reduceLT, Int.reduceLE, Int.reduceToNat, dite_true, hb, a1, a2, a3, a4, hq, hq2]
  refine VC.go 100 ?_
  simp only [push_cast, ↓reduceIte, Nat.reduceEqDiff, Nat.reduceAdd, Nat.reduceMul, Nat.reduceSub, Nat.reduceLT, Nat.reduceLeDiff, reduceCtorEq, Nat.reduceMod, Int.reduceEq, Int.reduceLT, Int.reduceLE, Int.reduceToNat, dite_true]
  exact RetOk.p rfl (by simp [rval, List.getD, hi, hkl])
theorem like_let (F : PH) (b : Nat) (v : Value) (l : List Bind) (hb : F.cell ⟨b, 0, none⟩ = some v) (hl : SlE F 11 (RBind F) v l) (i k : Nat) (hi : i < l.length) (hk : k < i) :
    PFn Tryd.prog 123 [.int .i64 i, .int .i64 k, .pointer (some ⟨b, 0, none⟩)] F (fun r _ => r = .bool (decide ((l.map Bind.name).getD i (bs []) = (l.map Bind.name).getD k (bs [])))) := by
  have hkl : k < l.length := by omega
  have a1 : (i : Int) < (l.length : Int) := by omega
  have a2 : (0 : Int) ≤ (i : Int) := by omega
  have a3 : (k : Int) < (l.length : Int) := by omega
  have a4 : (0 : Int) ≤ (k : Int) := by omega
  obtain ⟨q, cp, cs, e1, _, _, kl, kr⟩ := hl.elem (by decide) (i := i) (a := l[i]) (List.getElem?_eq_getElem hi) (fun _ _ h => h.len)
  obtain ⟨q2, _, cs2, e2, _, _, kl2, kr2⟩ := hl.elem (by decide) (i := k) (a := l[k]) (List.getElem?_eq_getElem hkl) (fun _ _ h => h.len)
  subst e1
  cases e2
  obtain ⟨_, _, rfl, _, _⟩ := RBind_iff.1 kr
  obtain ⟨_, _, rfl, _, _⟩ := RBind_iff.1 kr2
  have c1 := cell_at kl (o := 0) rfl
  have c2 := cell_at kl2 (o := 0) rfl
  refine Fn.intro (n := 17) (ts := [5]) Tryd.func123 rfl rfl rfl rfl (by simp) fun B hB => VC.go 100 ?_
  simp only [push_cast, ↓reduceIte, Nat.reduceEqDiff, Nat.reduceAdd, Nat.reduceMul, Nat.reduceSub, Nat.reduceLT, Nat.reduceLeDiff, reduceCtorEq, Nat.reduceMod, Int.reduceEq, Int.reduceLT, Int.reduceLE, Int.reduceToNat, dite_true]
  refine VC.draw (.q 0 (.q 1 (.q 2 (.q 3 (.q 4 (.q 5 (.q 6 (.q 7 (.q 8 (.q 9 (.q 10 (.q 11 (.done))))))))))))) mixed (by rfl) ?_
  simp only [push_cast, ↓reduceIte, Nat.reduceEqDiff, Nat.reduceAdd, Nat.reduceMul, Nat.reduceSub, Nat.reduceLT, Nat.reduceLeDiff, reduceCtorEq, Nat.reduceMod, Int.reduceEq, Int.reduceLT, Int.reduceLE, Int.reduceToNat, dite_true, hb, a1, a2, a3, a4, c1, c2]
  refine VC.go 100 ?_
  simp only [push_cast, ↓reduceIte, Nat.reduceEqDiff, Nat.reduceAdd, Nat.reduceMul, Nat.reduceSub, Nat.reduceLT, Nat.reduceLeDiff, reduceCtorEq, Nat.reduceMod, Int.reduceEq, Int.reduceLT, Int.reduceLE, Int.reduceToNat, dite_true]
  exact RetOk.p rfl (by simp [rval, List.getD, hi, hkl])
/-- Has a list of names one twice? -/
theorem dupAt_twice {l : List ByteArray} {i : Nat} (h : dupAt (fun i k => decide (l.getD i (bs []) = l.getD k (bs []))) l.length i) : i ≤ l.length ∧ (i < l.length ↔ twiceB [] l = true) ∧ ∀ j, ∀ hj : j < l.length, hasB (l.take j) l[j] = true → i ≤ j ∧ (i < l.length → hasB (l.take i) (l.getD i (bs [])) = true) := by
  have key : ∀ j, ∀ hj : j < l.length, (hasB (l.take j) l[j] = true ↔ ∃ k, k < j ∧ decide (l.getD j (bs []) = l.getD k (bs [])) = true) := fun j hj => by
    rw [hasB_iff]
    constructor
    · intro hm
      obtain ⟨k, hk, e⟩ := List.getElem_of_mem hm
      have hk' : k < j := by simp at hk; omega
      have hkl : k < l.length := by omega
      refine ⟨k, hk', ?_⟩
      simp only [List.getElem_take] at e
      simp [List.getD, hj, hkl, e]
    · rintro ⟨k, hk, e⟩
      have hkl : k < l.length := by omega
      simp [List.getD, hj, hkl] at e
      rw [e]
      exact List.mem_take_iff_getElem.2 ⟨k, by omega, rfl⟩
  rcases h with ⟨h1, h2, h3⟩ | ⟨rfl, h3⟩
  · refine ⟨by omega, ⟨fun _ => (twiceB_take l []).2 ⟨i, h1, by simpa using (key i h1).2 h2⟩, fun _ => h1⟩, fun j hj hm => ⟨?_, fun _ => ?_⟩⟩
    · rcases Nat.lt_or_ge j i with hlt | hge
      · obtain ⟨k, hk, e⟩ := (key j hj).1 hm
        have := h3 j hlt k hk
        dsimp only at this
        rw [e] at this; cases this
      · exact hge
    · have := (key i h1).2 h2
      simpa [List.getD, h1] using this
  · refine ⟨Nat.le_refl _, ⟨fun h => absurd h (Nat.lt_irrefl _), fun ht => ?_⟩, fun j hj hm => ?_⟩
    · obtain ⟨j, hj, hm⟩ := (twiceB_take l []).1 ht
      obtain ⟨k, hk, e⟩ := (key j hj).1 (by simpa using hm)
      have := h3 j hj k hk
      dsimp only at this
      rw [e] at this; cases this
    · obtain ⟨k, hk, e⟩ := (key j hj).1 hm
      have := h3 j hj k hk
      dsimp only at this
      rw [e] at this; cases this
end Go.Proofs.YtoepmdbicdoieaaDoor.P

/- Package scope: forms. -/
namespace Go.Proofs.YtoepmdbicdoieaaDoor.P
open Go Go.Eng Go.Proofs Go.Proofs.YtoepmdbicdoieaaDoor.T Go.Proofs.YtoepmdbicdoieaaDoor.K
set_option linter.unusedSimpArgs false
set_option linter.unusedVariables false
set_option maxRecDepth 100000
set_option maxHeartbeats 4000000
/-- The map of constructors. -/
def Cons (F : PH) (mb : Nat) (ds : List Dat) : Prop := ∃ es c l, F mb = some (.map es c) ∧ MapAs Value.string es l ∧ ∀ s, mget l s = (arityD ds s).map (Value.int .i64)
theorem Cons.mono {F G : PH} {mb : Nat} {ds : List Dat} (h : Cons F mb ds) (hl : F.le G) : Cons G mb ds := let ⟨es, c, l, h1, h2⟩ := h; ⟨es, c, l, hl _ _ h1, h2⟩
/-- The contract of the walk over one expression. -/
def ExpS (ds : List Dat) (e : Exp) : Prop := ∀ (F : PH) (b mb : Nat) (v vs va w1 we wl : Value) (c : Ck) (inn : List ByteArray), RepC F c v → ExpAt F e va w1 we wl → ScpL F vs inn → Cons F mb ds → Table F → inn.length + e.size ≤ 100000000 →
  SFn 80 [.agg (expCells e va w1 we wl).toArray, vs] F b mb v (expC ds e inn c)
theorem whenC_bad {p : Prop} [Decidable p] {c : Ck} {a e : Int} (h : c.bad = true) : whenC p c a e = c := by
  unfold whenC; split
  · exact failC_bad h
  · rfl
theorem argsS (a : Int) (l : List ByteArray) (c : Ck) : whenC ((whenC (hasB l ⟨#[]⟩ = true) (whenC (8 < l.length) c a 33) a 31).bad = false ∧ twiceB [] l = true) (whenC (hasB l ⟨#[]⟩ = true) (whenC (8 < l.length) c a 33) a 31) a 30 = argsC a l c := by
  obtain ⟨bad, at_, ee⟩ := c
  cases bad with
  | true =>
    have h1 : ∀ (p : Prop) [Decidable p] (e : Int), whenC p ⟨true, at_, ee⟩ a e = ⟨true, at_, ee⟩ := fun p _ e => whenC_bad rfl
    rw [h1, h1, h1]
    unfold argsC
    split
    · rfl
    split
    · rfl
    split
    · rfl
    · rfl
  | false =>
    unfold argsC
    by_cases g1 : 8 < l.length
    · simp [whenC, g1, failC]
    by_cases g2 : hasB l ⟨#[]⟩ = true
    · simp [whenC, g1, g2, failC]
    by_cases g3 : twiceB [] l = true
    · simp [whenC, g1, g2, g3, failC]
    · simp [whenC, g1, g2, g3, failC]
theorem form (ds : List Dat) (bd : Bind) (hE : ExpS ds bd.body) (F : PH) (b mb : Nat) (v vs w va w1 we wl : Value) (c : Ck) (inn : List ByteArray) (hr : RepC F c v) (hv : Strs F w bd.args) (hX : ExpAt F bd.body va w1 we wl) (hs : ScpL F vs inn) (hd : Cons F mb ds) (hT : Table F) (hsz : inn.length + bd.size ≤ 100000000) :
    SFn 39 [.agg (.string bd.name :: .int .i64 bd.at_ :: w :: expCells bd.body va w1 we wl).toArray, vs] F b mb v (formC ds bd inn c) := by
  have hX' := hX
  obtain ⟨pa, ca, pb, cb, pe, ce, pl, cl, rfl, rfl, rfl, rfl⟩ := hX.slices
  have hv' := hv
  obtain ⟨pv, cv, rfl, hv1, hv2, hv3⟩ := hv
  have hbs := bsize_eq bd
  have hal := sizeS_len bd.args
  have hone := hr.one
  -- what the arguments leave
  have hargs : formC ds bd inn c = expC ds bd.body (inn ++ bd.args) (argsC bd.at_ bd.args c) := by
    rw [formC_eq]
    split
    · rename_i hb
      have : argsC bd.at_ bd.args c = c := by
        unfold argsC
        split
        · exact failC_bad hb
        split
        · exact failC_bad hb
        split
        · exact failC_bad hb
        · rfl
      rw [this, expC_eq, if_pos hb]
    · rfl
  rw [hargs]
  clear hargs
  refine OFn.intro (n := 49) (ts := []) Tryd.func39 rfl rfl rfl rfl (by simp) fun B hB => ?_
  refine VC.go 5 ?_
  simp only [push_cast, ↓reduceIte, Nat.reduceEqDiff, Nat.reduceAdd, Nat.reduceMul, Nat.reduceSub, Nat.reduceLT, Nat.reduceLeDiff, reduceCtorEq, Nat.reduceMod, Int.reduceEq, Int.reduceLT, Int.reduceLE, Int.reduceToNat, dite_true, hone]
  intro bx b6
  refine VC.cutM (ι := Value × Ck × PH) (fun i => [(6, .o 2 b6 0), (4, .o 1 bx 0), (2, .v vs), (0, .o 0 b 0)]) (fun i => [⟨0, b, 112, [.map (some mb), i.1]⟩, ⟨1, bx, 53, .string bd.name :: .int .i64 bd.at_ :: .slice pv bd.args.length cv :: expCells bd.body (.slice pa bd.body.atoms.length ca) (.slice pb bd.body.binds.length cb) (.slice pe bd.body.kids.length ce) (.slice pl bd.body.alts.length cl)⟩, ⟨2, b6, 44, [.slice pv bd.args.length cv]⟩]) (fun i => i.2.2) (fun i => F.le i.2.2 ∧ RepC i.2.2 i.2.1 i.1 ∧ i.2.1 = whenC (8 < bd.args.length) c bd.at_ 33) ?_ ?_
  · intro G hG
    refine VC.go 100 ?_
    by_cases h8 : 8 < bd.args.length
    · have h8' : (8 : Int) < (bd.args.length : Int) := by omega
      simp only [push_cast, ↓reduceIte, Nat.reduceEqDiff, Nat.reduceAdd, Nat.reduceMul, Nat.reduceSub, Nat.reduceLT, Nat.reduceLeDiff, reduceCtorEq, Nat.reduceMod, Int.reduceEq, Int.reduceLT, Int.reduceLE, Int.reduceToNat, dite_true, h8', hone]
      refine CallV.own (i := 0) rfl (fail F b mb v c bd.at_ 33 hr) ?_
      rintro _ F2 _ hF2 ⟨v2, rfl, hr2⟩
      simp only [push_cast, ↓reduceIte, Nat.reduceEqDiff, Nat.reduceAdd, Nat.reduceMul, Nat.reduceSub, Nat.reduceLT, Nat.reduceLeDiff, reduceCtorEq, Nat.reduceMod, Int.reduceEq, Int.reduceLT, Int.reduceLE, Int.reduceToNat, dite_true]
      exact hG (v2, failC c bd.at_ 33, F2) _ ⟨hF2, hr2, by rw [whenC, if_pos h8]⟩ (by simp [subk, Eng.look]) (List.Sublist.refl _) rfl rfl
    · have h8' : ¬ (8 : Int) < (bd.args.length : Int) := by omega
      simp only [push_cast, ↓reduceIte, Nat.reduceEqDiff, Nat.reduceAdd, Nat.reduceMul, Nat.reduceSub, Nat.reduceLT, Nat.reduceLeDiff, reduceCtorEq, Nat.reduceMod, Int.reduceEq, Int.reduceLT, Int.reduceLE, Int.reduceToNat, dite_true, h8', hone]
      exact hG (v, c, F) _ ⟨PH.le_refl _, hr, by rw [whenC, if_neg h8]⟩ (by simp [subk, Eng.look]) (List.Sublist.refl _) rfl rfl
  rintro ⟨v1, c1, F1⟩ ⟨hF1, hr1, hc1⟩
  dsimp only at hF1 hr1 hc1 ⊢
  have hone1 := hr1.one
  refine VC.go 1 ?_
  simp only [push_cast, ↓reduceIte, Nat.reduceEqDiff, Nat.reduceAdd, Nat.reduceMul, Nat.reduceSub, Nat.reduceLT, Nat.reduceLeDiff, reduceCtorEq, Nat.reduceMod, Int.reduceEq, Int.reduceLT, Int.reduceLE, Int.reduceToNat, dite_true]
  refine VC.cutM (ι := Value × Ck × PH) (fun i => [(6, .o 2 b6 0), (4, .o 1 bx 0), (2, .v vs), (0, .o 0 b 0)]) (fun i => [⟨0, b, 112, [.map (some mb), i.1]⟩, ⟨1, bx, 53, .string bd.name :: .int .i64 bd.at_ :: .slice pv bd.args.length cv :: expCells bd.body (.slice pa bd.body.atoms.length ca) (.slice pb bd.body.binds.length cb) (.slice pe bd.body.kids.length ce) (.slice pl bd.body.alts.length cl)⟩, ⟨2, b6, 44, [.slice pv bd.args.length cv]⟩]) (fun i => i.2.2) (fun i => F1.le i.2.2 ∧ RepC i.2.2 i.2.1 i.1 ∧ i.2.1 = whenC (hasB bd.args ⟨#[]⟩ = true) c1 bd.at_ 31) ?_ ?_
  · intro G hG
    refine VC.go 100 ?_
    simp only [push_cast, ↓reduceIte, Nat.reduceEqDiff, Nat.reduceAdd, Nat.reduceMul, Nat.reduceSub, Nat.reduceLT, Nat.reduceLeDiff, reduceCtorEq, Nat.reduceMod, Int.reduceEq, Int.reduceLT, Int.reduceLE, Int.reduceToNat, dite_true, hone1]
    refine CallV.pure (empty F1 _ bd.args (hv'.mono hF1)) ?_
    rintro _ F2 hF2 rfl
    cases hh : hasB bd.args ⟨#[]⟩ with
    | true =>
      simp only [push_cast, ↓reduceIte, Nat.reduceEqDiff, Nat.reduceAdd, Nat.reduceMul, Nat.reduceSub, Nat.reduceLT, Nat.reduceLeDiff, reduceCtorEq, Nat.reduceMod, Int.reduceEq, Int.reduceLT, Int.reduceLE, Int.reduceToNat, dite_true, hone1]
      refine CallV.own (i := 0) rfl (fail F2 b mb v1 c1 bd.at_ 31 (hr1.mono hF2)) ?_
      rintro _ F3 _ hF3 ⟨v3, rfl, hr3⟩
      simp only [push_cast, ↓reduceIte, Nat.reduceEqDiff, Nat.reduceAdd, Nat.reduceMul, Nat.reduceSub, Nat.reduceLT, Nat.reduceLeDiff, reduceCtorEq, Nat.reduceMod, Int.reduceEq, Int.reduceLT, Int.reduceLE, Int.reduceToNat, dite_true]
      exact hG (v3, failC c1 bd.at_ 31, F3) _ ⟨PH.le_trans hF2 hF3, hr3, by rw [whenC, hh, if_pos rfl]⟩ (by simp [subk, Eng.look]) (List.Sublist.refl _) rfl rfl
    | false =>
      simp only [push_cast, ↓reduceIte, Nat.reduceEqDiff, Nat.reduceAdd, Nat.reduceMul, Nat.reduceSub, Nat.reduceLT, Nat.reduceLeDiff, reduceCtorEq, Nat.reduceMod, Int.reduceEq, Int.reduceLT, Int.reduceLE, Int.reduceToNat, dite_true, hone1]
      exact hG (v1, c1, F2) _ ⟨hF2, hr1.mono hF2, by rw [whenC, hh, if_neg Bool.false_ne_true]⟩ (by simp [subk, Eng.look]) (List.Sublist.refl _) rfl rfl
  rintro ⟨v2, c2, F2⟩ ⟨hF2, hr2, hc2⟩
  dsimp only at hF2 hr2 hc2 ⊢
  have hF12 := PH.le_trans hF1 hF2
  refine VC.freeze (m := ⟨2, b6, 44, [.slice pv bd.args.length cv]⟩) (M := [⟨0, b, 112, [.map (some mb), v2]⟩, ⟨1, bx, 53, .string bd.name :: .int .i64 bd.at_ :: .slice pv bd.args.length cv :: expCells bd.body (.slice pa bd.body.atoms.length ca) (.slice pb bd.body.binds.length cb) (.slice pe bd.body.kids.length ce) (.slice pl bd.body.alts.length cl)⟩]) (List.perm_middle (l₁ := [_, _]) (l₂ := [])) fun F3 hF3 hb6 => ?_
  refine VC.reL [(6, .v (.pointer (some ⟨b6, 0, none⟩))), (4, .o 1 bx 0), (2, .v vs), (0, .o 0 b 0)] (by simp [subv, Eng.look, AV.val]) ?_
  have hc6 : F3.cell ⟨b6, 0, none⟩ = some (.slice pv bd.args.length cv) := by rw [cell_one hb6]; rfl
  have hF13 := PH.le_trans hF12 hF3
  have hr3 := hr2.mono hF3
  refine VC.go 1 ?_
  simp only [push_cast, ↓reduceIte, Nat.reduceEqDiff, Nat.reduceAdd, Nat.reduceMul, Nat.reduceSub, Nat.reduceLT, Nat.reduceLeDiff, reduceCtorEq, Nat.reduceMod, Int.reduceEq, Int.reduceLT, Int.reduceLE, Int.reduceToNat, dite_true]
  refine VC.cutM (ι := Value × Ck × PH) (fun i => [(6, .v (.pointer (some ⟨b6, 0, none⟩))), (4, .o 1 bx 0), (2, .v vs), (0, .o 0 b 0)]) (fun i => [⟨0, b, 112, [.map (some mb), i.1]⟩, ⟨1, bx, 53, .string bd.name :: .int .i64 bd.at_ :: .slice pv bd.args.length cv :: expCells bd.body (.slice pa bd.body.atoms.length ca) (.slice pb bd.body.binds.length cb) (.slice pe bd.body.kids.length ce) (.slice pl bd.body.alts.length cl)⟩]) (fun i => i.2.2) (fun i => F3.le i.2.2 ∧ RepC i.2.2 i.2.1 i.1 ∧ i.2.1 = whenC (c2.bad = false ∧ twiceB [] bd.args = true) c2 bd.at_ 30) ?_ ?_
  · intro G hG
    refine VC.go 1 ?_
    simp only [push_cast, ↓reduceIte, Nat.reduceEqDiff, Nat.reduceAdd, Nat.reduceMul, Nat.reduceSub, Nat.reduceLT, Nat.reduceLeDiff, reduceCtorEq, Nat.reduceMod, Int.reduceEq, Int.reduceLT, Int.reduceLE, Int.reduceToNat, dite_true]
    refine VC.draw (.q 0 (.q 1 (.q 2 (.q 3 (.q 4 (.q 5 (.q 6 (.q 7 (.q 8 (.q 10 (.q 11 (.e 9 (.q 12 (.q 13 (.done))))))))))))))) mixed (by rfl) ?_
    rcases hr3 with ⟨rfl, rfl⟩ | ⟨a', e', b', rfl, rfl, hb'⟩
    · simp only [push_cast, ↓reduceIte, Nat.reduceEqDiff, Nat.reduceAdd, Nat.reduceMul, Nat.reduceSub, Nat.reduceLT, Nat.reduceLeDiff, reduceCtorEq, Nat.reduceMod, Int.reduceEq, Int.reduceLT, Int.reduceLE, Int.reduceToNat, dite_true, Option.isNone_none, hc6]
      refine CallV.pure (twice F3 bd.args.length (Nat.le_trans hv1 hv2) _ #[] #[.pointer (some ⟨b6, 0, none⟩)] (fun i k => decide (bd.args.getD i (bs []) = bd.args.getD k (bs []))) fun i k hi hk F' hF' => like_form F' b6 _ bd.args (hF'.cell hc6) (hv'.mono (PH.le_trans hF13 hF')) i k hi hk) ?_
      rintro _ F4 hF4 ⟨i, rfl, hdup⟩
      obtain ⟨d1, d2, _⟩ := dupAt_twice hdup
      by_cases hi : i < bd.args.length
      · have hi' : (i : Int) < (bd.args.length : Int) := by omega
        simp only [push_cast, ↓reduceIte, Nat.reduceEqDiff, Nat.reduceAdd, Nat.reduceMul, Nat.reduceSub, Nat.reduceLT, Nat.reduceLeDiff, reduceCtorEq, Nat.reduceMod, Int.reduceEq, Int.reduceLT, Int.reduceLE, Int.reduceToNat, dite_true, hi', hF4.cell hc6]
        refine VC.go 100 ?_
        simp only [push_cast, ↓reduceIte, Nat.reduceEqDiff, Nat.reduceAdd, Nat.reduceMul, Nat.reduceSub, Nat.reduceLT, Nat.reduceLeDiff, reduceCtorEq, Nat.reduceMod, Int.reduceEq, Int.reduceLT, Int.reduceLE, Int.reduceToNat, dite_true]
        refine CallV.own (i := 0) rfl (fail F4 b mb _ ⟨false, 0, 0⟩ bd.at_ 30 (.inl ⟨rfl, rfl⟩)) ?_
        rintro _ F5 _ hF5 ⟨v5, rfl, hr5⟩
        simp only [push_cast, ↓reduceIte, Nat.reduceEqDiff, Nat.reduceAdd, Nat.reduceMul, Nat.reduceSub, Nat.reduceLT, Nat.reduceLeDiff, reduceCtorEq, Nat.reduceMod, Int.reduceEq, Int.reduceLT, Int.reduceLE, Int.reduceToNat, dite_true]
        exact hG (v5, failC ⟨false, 0, 0⟩ bd.at_ 30, F5) _ ⟨PH.le_trans hF4 hF5, hr5, by rw [whenC, if_pos ⟨rfl, d2.1 hi⟩]⟩ (by simp [subk, Eng.look]) (List.Sublist.refl _) rfl rfl
      · have hi' : ¬ (i : Int) < (bd.args.length : Int) := by omega
        simp only [push_cast, ↓reduceIte, Nat.reduceEqDiff, Nat.reduceAdd, Nat.reduceMul, Nat.reduceSub, Nat.reduceLT, Nat.reduceLeDiff, reduceCtorEq, Nat.reduceMod, Int.reduceEq, Int.reduceLT, Int.reduceLE, Int.reduceToNat, dite_true, hi', hF4.cell hc6]
        refine VC.go 100 ?_
        simp only [push_cast, ↓reduceIte, Nat.reduceEqDiff, Nat.reduceAdd, Nat.reduceMul, Nat.reduceSub, Nat.reduceLT, Nat.reduceLeDiff, reduceCtorEq, Nat.reduceMod, Int.reduceEq, Int.reduceLT, Int.reduceLE, Int.reduceToNat, dite_true]
        exact hG (.pointer none, ⟨false, 0, 0⟩, F4) _ ⟨hF4, .inl ⟨rfl, rfl⟩, by rw [whenC, if_neg (fun h => hi (d2.2 h.2))]⟩ (by simp [subk, Eng.look]) (List.Sublist.refl _) rfl rfl
    · simp only [push_cast, ↓reduceIte, Nat.reduceEqDiff, Nat.reduceAdd, Nat.reduceMul, Nat.reduceSub, Nat.reduceLT, Nat.reduceLeDiff, reduceCtorEq, Nat.reduceMod, Int.reduceEq, Int.reduceLT, Int.reduceLE, Int.reduceToNat, dite_true, Option.isNone_some, hc6]
      refine VC.go 100 ?_
      simp only [push_cast, ↓reduceIte, Nat.reduceEqDiff, Nat.reduceAdd, Nat.reduceMul, Nat.reduceSub, Nat.reduceLT, Nat.reduceLeDiff, reduceCtorEq, Nat.reduceMod, Int.reduceEq, Int.reduceLT, Int.reduceLE, Int.reduceToNat, dite_true]
      exact hG (.pointer (some ⟨b', 0, none⟩), ⟨true, a', e'⟩, F3) _ ⟨PH.le_refl _, .inr ⟨a', e', b', rfl, rfl, hb'⟩, by rw [whenC, if_neg (fun h => nomatch h.1)]⟩ (by simp [subk, Eng.look]) (List.Sublist.refl _) rfl rfl
  rintro ⟨v4, c4, F4⟩ ⟨hF4, hr4, hc4⟩
  dsimp only at hF4 hr4 hc4 ⊢
  have hF14 := PH.le_trans hF13 hF4
  have hone4 := hr4.one
  have harg : c4 = argsC bd.at_ bd.args c := by rw [hc4, hc2, hc1]; exact argsS _ _ _
  clear hc4 hc2 hc1
  subst harg
  refine VC.draw (.q 0 (.q 1 (.q 2 (.q 3 (.q 4 (.q 5 (.e 6 (.es 7 [0, 1, 2, 3, 4, 5] (.done))))))))) mixed (by rfl) ?_
  simp only [push_cast, ↓reduceIte, Nat.reduceEqDiff, Nat.reduceAdd, Nat.reduceMul, Nat.reduceSub, Nat.reduceLT, Nat.reduceLeDiff, reduceCtorEq, Nat.reduceMod, Int.reduceEq, Int.reduceLT, Int.reduceLE, Int.reduceToNat, dite_true, hF4.cell hc6, hone4]
  refine CallV.pure (withL F4 vs _ inn bd.args (hs.mono hF14) (hv'.mono hF14)) ?_
  intro v5 F5 hF5 hs5
  simp only [push_cast, ↓reduceIte, Nat.reduceEqDiff, Nat.reduceAdd, Nat.reduceMul, Nat.reduceSub, Nat.reduceLT, Nat.reduceLeDiff, reduceCtorEq, Nat.reduceMod, Int.reduceEq, Int.reduceLT, Int.reduceLE, Int.reduceToNat, dite_true, (PH.le_trans hF4 hF5).cell hc6, hone4]
  refine CallV.own (i := 0) rfl (hE F5 b mb v4 v5 _ _ _ _ (argsC bd.at_ bd.args c) (inn ++ bd.args) (hr4.mono hF5) (hX'.mono (PH.le_trans hF14 hF5)) hs5 (hd.mono (PH.le_trans hF14 hF5)) (hT.mono (PH.le_trans hF14 hF5)) (by simp; omega)) ?_
  rintro _ F6 _ hF6 ⟨v6, rfl, hr6⟩
  simp only [push_cast, ↓reduceIte, Nat.reduceEqDiff, Nat.reduceAdd, Nat.reduceMul, Nat.reduceSub, Nat.reduceLT, Nat.reduceLeDiff, reduceCtorEq, Nat.reduceMod, Int.reduceEq, Int.reduceLT, Int.reduceLE, Int.reduceToNat, dite_true, (PH.le_trans hF4 (PH.le_trans hF5 hF6)).cell hc6]
  refine VC.go 100 ?_
  simp only [push_cast, ↓reduceIte, Nat.reduceEqDiff, Nat.reduceAdd, Nat.reduceMul, Nat.reduceSub, Nat.reduceLT, Nat.reduceLeDiff, reduceCtorEq, Nat.reduceMod, Int.reduceEq, Int.reduceLT, Int.reduceLE, Int.reduceToNat, dite_true]
  exact sret rfl hr6
end Go.Proofs.YtoepmdbicdoieaaDoor.P

/- Package scope: alternatives. (Written by gen/p4.py.) -/
namespace Go.Proofs.YtoepmdbicdoieaaDoor.P
open Go Go.Eng Go.Proofs Go.Proofs.YtoepmdbicdoieaaDoor.T Go.Proofs.YtoepmdbicdoieaaDoor.K
set_option linter.unusedSimpArgs false
set_option linter.unusedVariables false
set_option maxRecDepth 100000
set_option maxHeartbeats 4000000
def againStep (a d : Alt) : Bool := decide (d.kind = a.kind) && ((decide (a.kind = 1) && decide (d.name = a.name)) || (decide (a.kind = 2) && decide (d.n = a.n)))
theorem againB_step (p : List Alt) (d a : Alt) : againB (p ++ [d]) a = (againB p a || againStep a d) := by
  rw [againB_snoc, Bool.or_assoc]
  congr 1
  unfold againStep
  rw [show decide (d.name = a.name) = decide (a.name = d.name) from decide_eq_decide.2 eq_comm, show decide (d.n = a.n) = decide (a.n = d.n) from decide_eq_decide.2 eq_comm]
  by_cases h1 : a.kind = 1
  · by_cases h : d.kind = 1
    · simp [h1, h]
    · simp [h1, h]
  · by_cases h2 : a.kind = 2
    · by_cases h : d.kind = 2
      · simp [h2, h]
      · simp [h2, h]
    · simp [h1, h2]
/-- What is asked of an alternative of a constructor, but for names that are told twice. -/
def head1 (ds : List Dat) (a : Int) (s : ByteArray) (l : List ByteArray) (c : Ck) : Ck :=
  match arityD ds s with
  | none => failC c a 32
  | some m => if ¬ m = l.length then failC c a 33 else if hasB l ⟨#[]⟩ = true then failC c a 31 else c
theorem arityD_le {ds : List Dat} {s : ByteArray} {m : Int} (h : ∀ d ∈ ds, d.arity ≤ 8) (hm : arityD ds s = some m) : m ≤ 8 := by
  induction ds with
  | nil => cases hm
  | cons d l ih =>
    simp only [arityD] at hm
    split at hm
    · cases hm; exact h d List.mem_cons_self
    · exact ih (fun d hd => h d (List.mem_cons_of_mem _ hd)) hm
theorem failC_fail (c : Ck) (a e a' e' : Int) : failC (failC c a e) a' e' = failC c a e := by
  refine failC_bad ?_
  unfold failC; split
  · assumption
  · rfl
theorem head1_twice {ds : List Dat} (hds : ∀ d ∈ ds, d.arity ≤ 8) {k a : Int} (hk : k = 1) (s : ByteArray) (l : List ByteArray) (c : Ck) (r : Bool) :
    whenC ((r || (decide (l.length ≤ 8) && twiceB [] l)) = true) (head1 ds a s l c) a 30 = whenC (r = true) (headC ds k a s l c) a 30 := by
  have hw : ∀ (q : Prop) [Decidable q] (x y : Int), whenC q (failC c x y) a 30 = failC c x y := fun q _ x y => by
    unfold whenC; split
    · exact failC_fail _ _ _ _ _
    · rfl
  unfold head1 headC
  rw [if_pos hk]
  cases hm : arityD ds s with
  | none => simp only [hw]
  | some m =>
    have h8 := arityD_le hds hm
    by_cases g1 : m = (l.length : Int)
    · by_cases g2 : hasB l ⟨#[]⟩ = true
      · simp only [g1, g2, not_true, if_false, if_true, hw]
      · have h9 : l.length ≤ 8 := by omega
        simp only [g1, g2, not_true, if_false, h9, decide_true, Bool.true_and]
        cases ht : twiceB [] l with
        | false => simp
        | true =>
          cases r with
          | false => simp [whenC]
          | true => simp [whenC, failC_fail]
    · simp only [g1, not_false_iff, if_true, hw]
theorem alt (ds : List Dat) (hds : ∀ d ∈ ds, d.arity ≤ 8) (a : Alt) (p : List Alt) (hE : ExpS ds a.body) (F : PH) (b mb : Nat) (v vp vs w va w1 we wl : Value) (c : Ck) (inn : List ByteArray) (hr : RepC F c v) (hp : SlE F 13 (RAlt F) vp p) (hv : Strs F w a.vars) (hX : ExpAt F a.body va w1 we wl) (hs : ScpL F vs inn) (hd : Cons F mb ds) (hT : Table F) (hsz : inn.length + a.size ≤ 100000000) :
    SFn 124 [.agg (.int .i64 a.kind :: .int .i64 a.at_ :: .string a.name :: .int .i64 a.n :: w :: expCells a.body va w1 we wl).toArray, vp, vs] F b mb v (altC ds a (againB p a) inn c) := by
  have hX' := hX
  obtain ⟨pa, ca, pb, cb, pe, ce, pl, cl, rfl, rfl, rfl, rfl⟩ := hX.slices
  have hv' := hv
  obtain ⟨pv, cv, rfl, hv1, hv2, hv3⟩ := hv
  have hp' := hp
  obtain ⟨pp, cp, rfl, hp1, hp2⟩ := hp.val
  have hbs := asize_eq a
  have hal := sizeS_len a.vars
  have hone := hr.one
  rw [altC_eq]
  generalize hres : expC ds a.body (altIn a.kind a.name a.vars inn) (whenC (againB p a = true) (headC ds a.kind a.at_ a.name a.vars c) a.at_ 30) = res
  refine OFn.intro (n := 144) (ts := []) Tryd.func124 rfl rfl rfl rfl (by simp) fun B hB => ?_
  refine VC.go 7 ?_
  simp only [push_cast, ↓reduceIte, Nat.reduceEqDiff, Nat.reduceAdd, Nat.reduceMul, Nat.reduceSub, Nat.reduceLT, Nat.reduceLeDiff, reduceCtorEq, Nat.reduceMod, Int.reduceEq, Int.reduceLT, Int.reduceLE, Int.reduceToNat, dite_true, hone]
  intro bx
  refine VC.cutM (ι := Bool × PH) (fun i => [(9, .v (.bool i.1)), (8, .v vs), (5, .o 1 bx 0), (3, .v vs), (0, .o 0 b 0)]) (fun i => [⟨0, b, 112, [.map (some mb), v]⟩, ⟨1, bx, 148, .int .i64 a.kind :: .int .i64 a.at_ :: .string a.name :: .int .i64 a.n :: .slice pv a.vars.length cv :: expCells a.body (.slice pa a.body.atoms.length ca) (.slice pb a.body.binds.length cb) (.slice pe a.body.kids.length ce) (.slice pl a.body.alts.length cl)⟩]) (fun _ => F) (fun i => i.1 = againB p a) ?_ ?_
  · intro G0 hG0
    refine VC.go 100 ?_
    simp only [push_cast, ↓reduceIte, Nat.reduceEqDiff, Nat.reduceAdd, Nat.reduceMul, Nat.reduceSub, Nat.reduceLT, Nat.reduceLeDiff, reduceCtorEq, Nat.reduceMod, Int.reduceEq, Int.reduceLT, Int.reduceLE, Int.reduceToNat, dite_true]
    refine VC.loopP (ι := Nat × Bool × PH) (fun i => [(18, .v (.int .i64 i.1)), (17, .v (.int .i64 p.length)), (16, .v (.slice pp p.length cp)), (9, .v (.bool i.2.1)), (8, .v vs), (5, .o 1 bx 0), (3, .v vs), (0, .o 0 b 0)]) (fun _ => F) (fun _ => []) (fun i => i.1 ≤ p.length ∧ i.2.1 = againB (p.take i.1) a) (fun i => p.length - i.1) (0, false, F) ⟨Nat.zero_le _, rfl⟩ (by simp [subk, Eng.look]) rfl (subR_refl _) ?_
    rintro ⟨k, r, _⟩ ⟨hk, hag⟩ G hG
    dsimp only at hk hag hG ⊢
    refine VC.go 100 ?_
    by_cases h : k < p.length
    case neg =>
      have h' : ¬ (k : Int) < (p.length : Int) := by omega
      rw [List.take_of_length_le (by omega)] at hag
      simp only [push_cast, ↓reduceIte, Nat.reduceEqDiff, Nat.reduceAdd, Nat.reduceMul, Nat.reduceSub, Nat.reduceLT, Nat.reduceLeDiff, reduceCtorEq, Nat.reduceMod, Int.reduceEq, Int.reduceLT, Int.reduceLE, Int.reduceToNat, dite_true, h', hone]
      exact hG0 (r, F) _ hag (by simp [subk, Eng.look]) (List.Sublist.refl _) rfl rfl
    have h' : (k : Int) < (p.length : Int) := by omega
    have h0 : (0 : Int) ≤ (k : Int) := by omega
    have e2 : IntKind.i64.wrap ((k : Int) + 1) = ((k + 1 : Nat) : Int) := wadd k h (Nat.le_trans hp1 hp2)
    obtain ⟨q, _, cs, eq, _, _, kl, kr⟩ := hp'.elem (by decide) (i := k) (a := p[k]) (List.getElem?_eq_getElem h) (fun _ _ h => h.len)
    cases eq
    have hpt0 : p.take (k + 1) = p.take k ++ [p[k]] := List.take_succ_eq_append_getElem h
    obtain ⟨d, hdk⟩ : ∃ d, d = p[k] := ⟨_, rfl⟩
    have hpt : p.take (k + 1) = p.take k ++ [d] := by rw [hdk]; exact hpt0
    rw [← hdk] at kr
    obtain ⟨wv3, cc3, rfl, hwv3, hcc3⟩ := RAlt_iff.1 kr
    obtain ⟨za, zb, ze, zl, rfl, hz⟩ := RExp_iff.1 hcc3
    obtain ⟨pv3, cv3, rfl, _, _, _⟩ := hwv3
    obtain ⟨_, _, _, _, _, _, _, _, rfl, rfl, rfl, rfl⟩ := hz.slices
    cases r with
    | true =>
      simp only [push_cast, ↓reduceIte, Nat.reduceEqDiff, Nat.reduceAdd, Nat.reduceMul, Nat.reduceSub, Nat.reduceLT, Nat.reduceLeDiff, reduceCtorEq, Nat.reduceMod, Int.reduceEq, Int.reduceLT, Int.reduceLE, Int.reduceToNat, dite_true, h', h0, kl, e2, hone]
      intro b11
      exact hG (k + 1, true, F) _ ⟨by simp; omega, by rw [hpt, againB_step, ← hag]; simp [againStep, ]⟩ (by simp; omega) (by simp [subk, Eng.look]) (by simp) rfl (subR_refl _)
    | false =>
      by_cases q0 : d.kind = a.kind
      · by_cases q1 : a.kind = 1
        · have q2 : ¬ a.kind = 2 := by omega
          by_cases nn : d.name = a.name
          · simp only [push_cast, ↓reduceIte, Nat.reduceEqDiff, Nat.reduceAdd, Nat.reduceMul, Nat.reduceSub, Nat.reduceLT, Nat.reduceLeDiff, reduceCtorEq, Nat.reduceMod, Int.reduceEq, Int.reduceLT, Int.reduceLE, Int.reduceToNat, dite_true, h', h0, kl, eq_true q0, eq_true q1, q2, eq_true nn, e2, hone]
            intro b11
            exact hG (k + 1, true, F) _ ⟨by simp; omega, by rw [hpt, againB_step, ← hag]; simp [againStep, q0, q1, nn]⟩ (by simp; omega) (by simp [subk, Eng.look]) (by simp) rfl (subR_refl _)
          · simp only [push_cast, ↓reduceIte, Nat.reduceEqDiff, Nat.reduceAdd, Nat.reduceMul, Nat.reduceSub, Nat.reduceLT, Nat.reduceLeDiff, reduceCtorEq, Nat.reduceMod, Int.reduceEq, Int.reduceLT, Int.reduceLE, Int.reduceToNat, dite_true, h', h0, kl, eq_true q0, eq_true q1, q2, nn, e2, hone]
            intro b11
            exact hG (k + 1, false, F) _ ⟨by simp; omega, by rw [hpt, againB_step, ← hag]; simp [againStep, q0, q1, nn]⟩ (by simp; omega) (by simp [subk, Eng.look]) (by simp) rfl (subR_refl _)
        · by_cases q2 : a.kind = 2
          · by_cases nn : d.n = a.n
            · simp only [push_cast, ↓reduceIte, Nat.reduceEqDiff, Nat.reduceAdd, Nat.reduceMul, Nat.reduceSub, Nat.reduceLT, Nat.reduceLeDiff, reduceCtorEq, Nat.reduceMod, Int.reduceEq, Int.reduceLT, Int.reduceLE, Int.reduceToNat, dite_true, h', h0, kl, eq_true q0, q1, eq_true q2, eq_true nn, e2, hone]
              intro b11
              exact hG (k + 1, true, F) _ ⟨by simp; omega, by rw [hpt, againB_step, ← hag]; simp [againStep, q0, q2, nn]⟩ (by simp; omega) (by simp [subk, Eng.look]) (by simp) rfl (subR_refl _)
            · simp only [push_cast, ↓reduceIte, Nat.reduceEqDiff, Nat.reduceAdd, Nat.reduceMul, Nat.reduceSub, Nat.reduceLT, Nat.reduceLeDiff, reduceCtorEq, Nat.reduceMod, Int.reduceEq, Int.reduceLT, Int.reduceLE, Int.reduceToNat, dite_true, h', h0, kl, eq_true q0, q1, eq_true q2, nn, e2, hone]
              intro b11
              exact hG (k + 1, false, F) _ ⟨by simp; omega, by rw [hpt, againB_step, ← hag]; simp [againStep, q0, q1, q2, nn]⟩ (by simp; omega) (by simp [subk, Eng.look]) (by simp) rfl (subR_refl _)
          · simp only [push_cast, ↓reduceIte, Nat.reduceEqDiff, Nat.reduceAdd, Nat.reduceMul, Nat.reduceSub, Nat.reduceLT, Nat.reduceLeDiff, reduceCtorEq, Nat.reduceMod, Int.reduceEq, Int.reduceLT, Int.reduceLE, Int.reduceToNat, dite_true, h', h0, kl, eq_true q0, q1, q2, e2, hone]
            intro b11
            exact hG (k + 1, false, F) _ ⟨by simp; omega, by rw [hpt, againB_step, ← hag]; simp [againStep, q0, q1, q2]⟩ (by simp; omega) (by simp [subk, Eng.look]) (by simp) rfl (subR_refl _)
      · simp only [push_cast, ↓reduceIte, Nat.reduceEqDiff, Nat.reduceAdd, Nat.reduceMul, Nat.reduceSub, Nat.reduceLT, Nat.reduceLeDiff, reduceCtorEq, Nat.reduceMod, Int.reduceEq, Int.reduceLT, Int.reduceLE, Int.reduceToNat, dite_true, h', h0, kl, q0, e2, hone]
        intro b11
        exact hG (k + 1, false, F) _ ⟨by simp; omega, by rw [hpt, againB_step, ← hag]; simp [againStep, q0]⟩ (by simp; omega) (by simp [subk, Eng.look]) (by simp) rfl (subR_refl _)
  rintro ⟨r, _⟩ hag
  dsimp only at hag ⊢
  refine VC.go 1 ?_
  simp only [push_cast, ↓reduceIte, Nat.reduceEqDiff, Nat.reduceAdd, Nat.reduceMul, Nat.reduceSub, Nat.reduceLT, Nat.reduceLeDiff, reduceCtorEq, Nat.reduceMod, Int.reduceEq, Int.reduceLT, Int.reduceLE, Int.reduceToNat, dite_true]
  refine VC.cutM (ι := (Value × Bool) × Value × Ck × PH) (fun i => [(9, .v (.bool i.1.2)), (8, .v i.1.1), (5, .o 1 bx 0), (0, .o 0 b 0)]) (fun i => [⟨0, b, 112, [.map (some mb), i.2.1]⟩, ⟨1, bx, 148, .int .i64 a.kind :: .int .i64 a.at_ :: .string a.name :: .int .i64 a.n :: .slice pv a.vars.length cv :: expCells a.body (.slice pa a.body.atoms.length ca) (.slice pb a.body.binds.length cb) (.slice pe a.body.kids.length ce) (.slice pl a.body.alts.length cl)⟩]) (fun i => i.2.2.2) (fun i => F.le i.2.2.2 ∧ RepC i.2.2.2 i.2.2.1 i.2.1 ∧ ScpL i.2.2.2 i.1.1 (altIn a.kind a.name a.vars inn) ∧ whenC (i.1.2 = true) i.2.2.1 a.at_ 30 = whenC (againB p a = true) (headC ds a.kind a.at_ a.name a.vars c) a.at_ 30) ?_ ?_
  · intro G hG
    refine VC.go 100 ?_
    by_cases g1 : a.kind = 1
    · have hd1 : altIn a.kind a.name a.vars inn = inn ++ a.vars := if_pos g1
      simp only [push_cast, ↓reduceIte, Nat.reduceEqDiff, Nat.reduceAdd, Nat.reduceMul, Nat.reduceSub, Nat.reduceLT, Nat.reduceLeDiff, reduceCtorEq, Nat.reduceMod, Int.reduceEq, Int.reduceLT, Int.reduceLE, Int.reduceToNat, dite_true, eq_true g1, hone]
      refine VC.draw (.q 0 (.q 1 (.q 2 (.q 3 (.q 4 (.q 5 (.e 6 (.q 7 (.q 8 (.q 9 (.q 10 (.q 11 (.done))))))))))))) mixed (by rfl) ?_
      simp only [push_cast, ↓reduceIte, Nat.reduceEqDiff, Nat.reduceAdd, Nat.reduceMul, Nat.reduceSub, Nat.reduceLT, Nat.reduceLeDiff, reduceCtorEq, Nat.reduceMod, Int.reduceEq, Int.reduceLT, Int.reduceLE, Int.reduceToNat, dite_true, hone]
      obtain ⟨es, cm, lm, hm1, hm2, hm3⟩ := hd
      refine Eff.lookup keyStr rfl ty67 rfl Tryd.underlying9 ty3 rfl rfl (.inl hm1) hm2 ?_
      rw [hm3]
      have hd : Cons F mb ds := ⟨es, cm, lm, hm1, hm2, hm3⟩
      have hget : ((arityD ds a.name).map (Value.int .i64)).getD (.int .i64 0) = .int .i64 ((arityD ds a.name).getD 0) := by cases arityD ds a.name <;> rfl
      have hsome : ((arityD ds a.name).map (Value.int .i64)).isSome = (arityD ds a.name).isSome := by cases arityD ds a.name <;> rfl
      simp only [push_cast, ↓reduceIte, Nat.reduceEqDiff, Nat.reduceAdd, Nat.reduceMul, Nat.reduceSub, Nat.reduceLT, Nat.reduceLeDiff, reduceCtorEq, Nat.reduceMod, Int.reduceEq, Int.reduceLT, Int.reduceLE, Int.reduceToNat, dite_true, hget, hsome]
      refine VC.go 1 ?_
      simp only [push_cast, ↓reduceIte, Nat.reduceEqDiff, Nat.reduceAdd, Nat.reduceMul, Nat.reduceSub, Nat.reduceLT, Nat.reduceLeDiff, reduceCtorEq, Nat.reduceMod, Int.reduceEq, Int.reduceLT, Int.reduceLE, Int.reduceToNat, dite_true]
      refine VC.cutM (ι := Value × Ck × PH) (fun i => [(9, .v (.bool r)), (5, .o 1 bx 0), (3, .v vs), (0, .o 0 b 0)]) (fun i => [⟨0, b, 112, [.map (some mb), i.1]⟩, ⟨1, bx, 148, .int .i64 a.kind :: .int .i64 a.at_ :: .string a.name :: .int .i64 a.n :: .slice pv a.vars.length cv :: expCells a.body (.slice pa a.body.atoms.length ca) (.slice pb a.body.binds.length cb) (.slice pe a.body.kids.length ce) (.slice pl a.body.alts.length cl)⟩]) (fun i => i.2.2) (fun i => F.le i.2.2 ∧ RepC i.2.2 i.2.1 i.1 ∧ i.2.1 = head1 ds a.at_ a.name a.vars c) ?_ ?_
      · intro G2 hG2
        refine VC.go 100 ?_
        cases ha : arityD ds a.name with
        | none =>
          simp only [push_cast, ↓reduceIte, Nat.reduceEqDiff, Nat.reduceAdd, Nat.reduceMul, Nat.reduceSub, Nat.reduceLT, Nat.reduceLeDiff, reduceCtorEq, Nat.reduceMod, Int.reduceEq, Int.reduceLT, Int.reduceLE, Int.reduceToNat, dite_true, Option.isSome_none, hone]
          refine CallV.own (i := 0) rfl (fail F b mb v c a.at_ 32 hr) ?_
          rintro _ F2 _ hF2 ⟨v2, rfl, hr2⟩
          simp only [push_cast, ↓reduceIte, Nat.reduceEqDiff, Nat.reduceAdd, Nat.reduceMul, Nat.reduceSub, Nat.reduceLT, Nat.reduceLeDiff, reduceCtorEq, Nat.reduceMod, Int.reduceEq, Int.reduceLT, Int.reduceLE, Int.reduceToNat, dite_true]
          exact hG2 (v2, failC c a.at_ 32, F2) _ ⟨hF2, hr2, by simp only [head1, ha]⟩ (by simp [subk, Eng.look]) (List.Sublist.refl _) rfl rfl
        | some m =>
          by_cases g2 : m = (a.vars.length : Int)
          case neg =>
            simp only [push_cast, ↓reduceIte, Nat.reduceEqDiff, Nat.reduceAdd, Nat.reduceMul, Nat.reduceSub, Nat.reduceLT, Nat.reduceLeDiff, reduceCtorEq, Nat.reduceMod, Int.reduceEq, Int.reduceLT, Int.reduceLE, Int.reduceToNat, dite_true, Option.isSome_some, Option.getD_some, g2, hone]
            refine CallV.own (i := 0) rfl (fail F b mb v c a.at_ 33 hr) ?_
            rintro _ F2 _ hF2 ⟨v2, rfl, hr2⟩
            simp only [push_cast, ↓reduceIte, Nat.reduceEqDiff, Nat.reduceAdd, Nat.reduceMul, Nat.reduceSub, Nat.reduceLT, Nat.reduceLeDiff, reduceCtorEq, Nat.reduceMod, Int.reduceEq, Int.reduceLT, Int.reduceLE, Int.reduceToNat, dite_true]
            exact hG2 (v2, failC c a.at_ 33, F2) _ ⟨hF2, hr2, by simp only [head1, ha, if_pos g2]⟩ (by simp [subk, Eng.look]) (List.Sublist.refl _) rfl rfl
          simp only [push_cast, ↓reduceIte, Nat.reduceEqDiff, Nat.reduceAdd, Nat.reduceMul, Nat.reduceSub, Nat.reduceLT, Nat.reduceLeDiff, reduceCtorEq, Nat.reduceMod, Int.reduceEq, Int.reduceLT, Int.reduceLE, Int.reduceToNat, dite_true, Option.isSome_some, Option.getD_some, eq_true g2, hone]
          refine CallV.pure (empty F _ a.vars hv') ?_
          rintro _ F2 hF2 rfl
          cases hh : hasB a.vars ⟨#[]⟩ with
          | true =>
            simp only [push_cast, ↓reduceIte, Nat.reduceEqDiff, Nat.reduceAdd, Nat.reduceMul, Nat.reduceSub, Nat.reduceLT, Nat.reduceLeDiff, reduceCtorEq, Nat.reduceMod, Int.reduceEq, Int.reduceLT, Int.reduceLE, Int.reduceToNat, dite_true, hone]
            refine CallV.own (i := 0) rfl (fail F2 b mb v c a.at_ 31 (hr.mono hF2)) ?_
            rintro _ F3 _ hF3 ⟨v3, rfl, hr3⟩
            simp only [push_cast, ↓reduceIte, Nat.reduceEqDiff, Nat.reduceAdd, Nat.reduceMul, Nat.reduceSub, Nat.reduceLT, Nat.reduceLeDiff, reduceCtorEq, Nat.reduceMod, Int.reduceEq, Int.reduceLT, Int.reduceLE, Int.reduceToNat, dite_true]
            exact hG2 (v3, failC c a.at_ 31, F3) _ ⟨PH.le_trans hF2 hF3, hr3, by simp only [head1, ha, if_neg (not_not_intro g2), if_pos hh]⟩ (by simp [subk, Eng.look]) (List.Sublist.refl _) rfl rfl
          | false =>
            simp only [push_cast, ↓reduceIte, Nat.reduceEqDiff, Nat.reduceAdd, Nat.reduceMul, Nat.reduceSub, Nat.reduceLT, Nat.reduceLeDiff, reduceCtorEq, Nat.reduceMod, Int.reduceEq, Int.reduceLT, Int.reduceLE, Int.reduceToNat, dite_true, hone]
            exact hG2 (v, c, F2) _ ⟨hF2, hr.mono hF2, by simp only [head1, ha, if_neg (not_not_intro g2), hh, Bool.false_eq_true, if_false]⟩ (by simp [subk, Eng.look]) (List.Sublist.refl _) rfl rfl
      rintro ⟨v2, c2, F2⟩ ⟨hF2, hr2, hc2⟩
      dsimp only at hF2 hr2 hc2 ⊢
      have hone2 := hr2.one
      refine VC.go 3 ?_
      simp only [push_cast, ↓reduceIte, Nat.reduceEqDiff, Nat.reduceAdd, Nat.reduceMul, Nat.reduceSub, Nat.reduceLT, Nat.reduceLeDiff, reduceCtorEq, Nat.reduceMod, Int.reduceEq, Int.reduceLT, Int.reduceLE, Int.reduceToNat, dite_true, hone2]
      intro b14
      refine VC.freeze (m := ⟨2, b14, 44, [.slice pv a.vars.length cv]⟩) (M := [⟨0, b, 112, [.map (some mb), v2]⟩, ⟨1, bx, 148, .int .i64 a.kind :: .int .i64 a.at_ :: .string a.name :: .int .i64 a.n :: .slice pv a.vars.length cv :: expCells a.body (.slice pa a.body.atoms.length ca) (.slice pb a.body.binds.length cb) (.slice pe a.body.kids.length ce) (.slice pl a.body.alts.length cl)⟩]) (List.perm_middle (l₁ := [_, _]) (l₂ := [])) fun F3 hF3 hb14 => ?_
      refine VC.reL [(14, .v (.pointer (some ⟨b14, 0, none⟩))), (9, .v (.bool r)), (5, .o 1 bx 0), (3, .v vs), (0, .o 0 b 0)] (by simp [subv, Eng.look, AV.val]) ?_
      have hc14 : F3.cell ⟨b14, 0, none⟩ = some (.slice pv a.vars.length cv) := by rw [cell_one hb14]; rfl
      have hF23 := PH.le_trans hF2 hF3
      have hr3 := hr2.mono hF3
      have hlaw := head1_twice hds (k := a.kind) (a := a.at_) g1 a.name a.vars c r
      rw [hag] at hlaw
      have fin : ∀ (r' : Bool) (F4 : PH) (v5 : Value) (F5 : PH) (S' : St), F3.le F4 → F4.le F5 → r' = (r || (decide (a.vars.length ≤ 8) && twiceB [] a.vars)) → ScpL F5 v5 (inn ++ a.vars) → subk S'.L [(9, .v (.bool r')), (8, .v v5), (5, .o 1 bx 0), (0, .o 0 b 0)] → ([⟨0, b, 112, [.map (some mb), v2]⟩, ⟨1, bx, 148, .int .i64 a.kind :: .int .i64 a.at_ :: .string a.name :: .int .i64 a.n :: .slice pv a.vars.length cv :: expCells a.body (.slice pa a.body.atoms.length ca) (.slice pb a.body.binds.length cb) (.slice pe a.body.kids.length ce) (.slice pl a.body.alts.length cl)⟩] : List Own).Sublist S'.M → S'.F = F5 → S'.R = [] → G S' :=
        fun r' F4 v5 F5 S' k1 k2 k3 k4 k5 k6 k7 k8 => hG ((v5, r'), v2, c2, F5) S' ⟨PH.le_trans hF23 (PH.le_trans k1 k2), hr3.mono (PH.le_trans k1 k2), by rw [hd1]; exact k4, by rw [hc2, k3]; rw [hag]; exact hlaw⟩ k5 k6 k7 k8
      refine VC.draw (.q 0 (.q 1 (.q 2 (.q 3 (.q 4 (.q 5 (.q 6 (.q 7 (.q 8 (.q 10 (.q 11 (.e 9 (.q 12 (.q 13 (.q 14 (.e 15 (.done))))))))))))))))) mixed (by rfl) ?_
      cases r with
      | true =>
        simp only [push_cast, ↓reduceIte, Nat.reduceEqDiff, Nat.reduceAdd, Nat.reduceMul, Nat.reduceSub, Nat.reduceLT, Nat.reduceLeDiff, reduceCtorEq, Nat.reduceMod, Int.reduceEq, Int.reduceLT, Int.reduceLE, Int.reduceToNat, dite_true, hc14]
        refine VC.go 100 ?_
        simp only [push_cast, ↓reduceIte, Nat.reduceEqDiff, Nat.reduceAdd, Nat.reduceMul, Nat.reduceSub, Nat.reduceLT, Nat.reduceLeDiff, reduceCtorEq, Nat.reduceMod, Int.reduceEq, Int.reduceLT, Int.reduceLE, Int.reduceToNat, dite_true, hc14]
        refine CallV.pure (withL F3 vs _ inn a.vars (hs.mono hF23) (hv'.mono hF23)) ?_
        intro v5 F5 hF5 hs5
        simp only [push_cast, ↓reduceIte, Nat.reduceEqDiff, Nat.reduceAdd, Nat.reduceMul, Nat.reduceSub, Nat.reduceLT, Nat.reduceLeDiff, reduceCtorEq, Nat.reduceMod, Int.reduceEq, Int.reduceLT, Int.reduceLE, Int.reduceToNat, dite_true]
        exact fin true F3 v5 F5 _ (PH.le_refl _) hF5 (by simp) hs5 (by simp [subk, Eng.look]) (List.Sublist.refl _) rfl rfl
      | false =>
        by_cases h8 : a.vars.length ≤ 8
        case neg =>
          have h8' : ¬ (a.vars.length : Int) ≤ 8 := by omega
          simp only [push_cast, ↓reduceIte, Nat.reduceEqDiff, Nat.reduceAdd, Nat.reduceMul, Nat.reduceSub, Nat.reduceLT, Nat.reduceLeDiff, reduceCtorEq, Nat.reduceMod, Int.reduceEq, Int.reduceLT, Int.reduceLE, Int.reduceToNat, dite_true, hc14, h8']
          refine VC.go 100 ?_
          simp only [push_cast, ↓reduceIte, Nat.reduceEqDiff, Nat.reduceAdd, Nat.reduceMul, Nat.reduceSub, Nat.reduceLT, Nat.reduceLeDiff, reduceCtorEq, Nat.reduceMod, Int.reduceEq, Int.reduceLT, Int.reduceLE, Int.reduceToNat, dite_true, hc14]
          refine CallV.pure (withL F3 vs _ inn a.vars (hs.mono hF23) (hv'.mono hF23)) ?_
          intro v5 F5 hF5 hs5
          simp only [push_cast, ↓reduceIte, Nat.reduceEqDiff, Nat.reduceAdd, Nat.reduceMul, Nat.reduceSub, Nat.reduceLT, Nat.reduceLeDiff, reduceCtorEq, Nat.reduceMod, Int.reduceEq, Int.reduceLT, Int.reduceLE, Int.reduceToNat, dite_true]
          exact fin false F3 v5 F5 _ (PH.le_refl _) hF5 (by simp [h8]) hs5 (by simp [subk, Eng.look]) (List.Sublist.refl _) rfl rfl
        have h8' : (a.vars.length : Int) ≤ 8 := by omega
        simp only [push_cast, ↓reduceIte, Nat.reduceEqDiff, Nat.reduceAdd, Nat.reduceMul, Nat.reduceSub, Nat.reduceLT, Nat.reduceLeDiff, reduceCtorEq, Nat.reduceMod, Int.reduceEq, Int.reduceLT, Int.reduceLE, Int.reduceToNat, dite_true, hc14, h8']
        refine CallV.pure (twice F3 a.vars.length (Nat.le_trans hv1 hv2) _ #[] #[.pointer (some ⟨b14, 0, none⟩)] (fun i k => decide (a.vars.getD i (bs []) = a.vars.getD k (bs []))) fun i k hi hk F' hF' => like_alt F' b14 _ a.vars (hF'.cell hc14) (hv'.mono (PH.le_trans hF23 hF')) i k hi hk) ?_
        rintro _ F4 hF4 ⟨i, rfl, hdup⟩
        obtain ⟨d1, d2, _⟩ := dupAt_twice hdup
        by_cases hi : i < a.vars.length
        · have hi' : (i : Int) < (a.vars.length : Int) := by omega
          simp only [push_cast, ↓reduceIte, Nat.reduceEqDiff, Nat.reduceAdd, Nat.reduceMul, Nat.reduceSub, Nat.reduceLT, Nat.reduceLeDiff, reduceCtorEq, Nat.reduceMod, Int.reduceEq, Int.reduceLT, Int.reduceLE, Int.reduceToNat, dite_true, hi', hF4.cell hc14]
          refine VC.go 100 ?_
          simp only [push_cast, ↓reduceIte, Nat.reduceEqDiff, Nat.reduceAdd, Nat.reduceMul, Nat.reduceSub, Nat.reduceLT, Nat.reduceLeDiff, reduceCtorEq, Nat.reduceMod, Int.reduceEq, Int.reduceLT, Int.reduceLE, Int.reduceToNat, dite_true, hF4.cell hc14]
          refine CallV.pure (withL F4 vs _ inn a.vars (hs.mono (PH.le_trans hF23 hF4)) (hv'.mono (PH.le_trans hF23 hF4))) ?_
          intro v5 F5 hF5 hs5
          simp only [push_cast, ↓reduceIte, Nat.reduceEqDiff, Nat.reduceAdd, Nat.reduceMul, Nat.reduceSub, Nat.reduceLT, Nat.reduceLeDiff, reduceCtorEq, Nat.reduceMod, Int.reduceEq, Int.reduceLT, Int.reduceLE, Int.reduceToNat, dite_true]
          exact fin true F4 v5 F5 _ hF4 hF5 (by simp [h8, d2.1 hi]) hs5 (by simp [subk, Eng.look]) (List.Sublist.refl _) rfl rfl
        · have hi' : ¬ (i : Int) < (a.vars.length : Int) := by omega
          have ht : twiceB [] a.vars = false := Bool.eq_false_iff.2 fun h => hi (d2.2 h)
          simp only [push_cast, ↓reduceIte, Nat.reduceEqDiff, Nat.reduceAdd, Nat.reduceMul, Nat.reduceSub, Nat.reduceLT, Nat.reduceLeDiff, reduceCtorEq, Nat.reduceMod, Int.reduceEq, Int.reduceLT, Int.reduceLE, Int.reduceToNat, dite_true, hi', hF4.cell hc14]
          refine VC.go 100 ?_
          simp only [push_cast, ↓reduceIte, Nat.reduceEqDiff, Nat.reduceAdd, Nat.reduceMul, Nat.reduceSub, Nat.reduceLT, Nat.reduceLeDiff, reduceCtorEq, Nat.reduceMod, Int.reduceEq, Int.reduceLT, Int.reduceLE, Int.reduceToNat, dite_true, hF4.cell hc14]
          refine CallV.pure (withL F4 vs _ inn a.vars (hs.mono (PH.le_trans hF23 hF4)) (hv'.mono (PH.le_trans hF23 hF4))) ?_
          intro v5 F5 hF5 hs5
          simp only [push_cast, ↓reduceIte, Nat.reduceEqDiff, Nat.reduceAdd, Nat.reduceMul, Nat.reduceSub, Nat.reduceLT, Nat.reduceLeDiff, reduceCtorEq, Nat.reduceMod, Int.reduceEq, Int.reduceLT, Int.reduceLE, Int.reduceToNat, dite_true]
          exact fin false F4 v5 F5 _ hF4 hF5 (by simp [ht]) hs5 (by simp [subk, Eng.look]) (List.Sublist.refl _) rfl rfl
    by_cases g2 : a.kind = 2
    · simp only [push_cast, ↓reduceIte, Nat.reduceEqDiff, Nat.reduceAdd, Nat.reduceMul, Nat.reduceSub, Nat.reduceLT, Nat.reduceLeDiff, reduceCtorEq, Nat.reduceMod, Int.reduceEq, Int.reduceLT, Int.reduceLE, Int.reduceToNat, dite_true, g1, eq_true g2, hone]
      exact hG ((vs, r), v, c, F) _ ⟨PH.le_refl _, hr, by simp only [altIn, if_neg g1, if_neg (show ¬ a.kind = 3 by omega)]; exact hs, by rw [hag]; simp only [headC, if_neg g1, if_pos g2]⟩ (by simp [subk, Eng.look]) (List.Sublist.refl _) rfl rfl
    by_cases g3 : a.kind = 3
    · have hd3 : altIn a.kind a.name a.vars inn = inn ++ [a.name] := by simp only [altIn, if_neg g1, if_pos g3]
      by_cases g4 : a.name = ⟨#[]⟩
      · simp only [push_cast, ↓reduceIte, Nat.reduceEqDiff, Nat.reduceAdd, Nat.reduceMul, Nat.reduceSub, Nat.reduceLT, Nat.reduceLeDiff, reduceCtorEq, Nat.reduceMod, Int.reduceEq, Int.reduceLT, Int.reduceLE, Int.reduceToNat, dite_true, g1, g2, eq_true g3, eq_true g4, hone]
        refine CallV.own (i := 0) rfl (fail F b mb v c a.at_ 31 hr) ?_
        rintro _ F3 _ hF3 ⟨v3, rfl, hr3⟩
        have hone3 := hr3.one
        simp only [push_cast, ↓reduceIte, Nat.reduceEqDiff, Nat.reduceAdd, Nat.reduceMul, Nat.reduceSub, Nat.reduceLT, Nat.reduceLeDiff, reduceCtorEq, Nat.reduceMod, Int.reduceEq, Int.reduceLT, Int.reduceLE, Int.reduceToNat, dite_true, hone3]
        intro b5 F5 hF5 hb5
        refine CallV.pure (withL F5 vs _ inn [a.name] (hs.mono (PH.le_trans hF3 hF5)) (strs_blk (l := [a.name]) hb5 one_max)) ?_
        intro v5 F6 hF6 hs6
        simp only [push_cast, ↓reduceIte, Nat.reduceEqDiff, Nat.reduceAdd, Nat.reduceMul, Nat.reduceSub, Nat.reduceLT, Nat.reduceLeDiff, reduceCtorEq, Nat.reduceMod, Int.reduceEq, Int.reduceLT, Int.reduceLE, Int.reduceToNat, dite_true]
        exact hG ((v5, r), v3, failC c a.at_ 31, F6) _ ⟨PH.le_trans hF3 (PH.le_trans hF5 hF6), hr3.mono (PH.le_trans hF5 hF6), by rw [hd3]; exact hs6, by rw [hag]; simp only [headC, if_neg g1, if_neg g2, if_pos g3]; rw [show whenC (a.name = ⟨#[]⟩) c a.at_ 31 = failC c a.at_ 31 from if_pos g4]⟩ (by simp [subk, Eng.look]) (List.Sublist.refl _) rfl rfl
      · simp only [push_cast, ↓reduceIte, Nat.reduceEqDiff, Nat.reduceAdd, Nat.reduceMul, Nat.reduceSub, Nat.reduceLT, Nat.reduceLeDiff, reduceCtorEq, Nat.reduceMod, Int.reduceEq, Int.reduceLT, Int.reduceLE, Int.reduceToNat, dite_true, g1, g2, eq_true g3, g4, hone]
        intro b5 F5 hF5 hb5
        refine CallV.pure (withL F5 vs _ inn [a.name] (hs.mono hF5) (strs_blk (l := [a.name]) hb5 one_max)) ?_
        intro v5 F6 hF6 hs6
        simp only [push_cast, ↓reduceIte, Nat.reduceEqDiff, Nat.reduceAdd, Nat.reduceMul, Nat.reduceSub, Nat.reduceLT, Nat.reduceLeDiff, reduceCtorEq, Nat.reduceMod, Int.reduceEq, Int.reduceLT, Int.reduceLE, Int.reduceToNat, dite_true]
        exact hG ((v5, r), v, c, F6) _ ⟨PH.le_trans hF5 hF6, hr.mono (PH.le_trans hF5 hF6), by rw [hd3]; exact hs6, by rw [hag]; simp only [headC, if_neg g1, if_neg g2, if_pos g3]; rw [show whenC (a.name = ⟨#[]⟩) c a.at_ 31 = c from if_neg g4]⟩ (by simp [subk, Eng.look]) (List.Sublist.refl _) rfl rfl
    · simp only [push_cast, ↓reduceIte, Nat.reduceEqDiff, Nat.reduceAdd, Nat.reduceMul, Nat.reduceSub, Nat.reduceLT, Nat.reduceLeDiff, reduceCtorEq, Nat.reduceMod, Int.reduceEq, Int.reduceLT, Int.reduceLE, Int.reduceToNat, dite_true, g1, g2, g3, hone]
      refine CallV.own (i := 0) rfl (fail F b mb v c a.at_ 2 hr) ?_
      rintro _ F3 _ hF3 ⟨v3, rfl, hr3⟩
      simp only [push_cast, ↓reduceIte, Nat.reduceEqDiff, Nat.reduceAdd, Nat.reduceMul, Nat.reduceSub, Nat.reduceLT, Nat.reduceLeDiff, reduceCtorEq, Nat.reduceMod, Int.reduceEq, Int.reduceLT, Int.reduceLE, Int.reduceToNat, dite_true]
      exact hG ((vs, r), v3, failC c a.at_ 2, F3) _ ⟨hF3, hr3, by simp only [altIn, if_neg g1, if_neg g3]; exact hs.mono hF3, by rw [hag]; simp only [headC, if_neg g1, if_neg g2, if_neg g3]⟩ (by simp [subk, Eng.look]) (List.Sublist.refl _) rfl rfl
  rintro ⟨⟨v8, r8⟩, v2, c2, F2⟩ ⟨hF2, hr2, hs2, hw⟩
  dsimp only at hF2 hr2 hs2 hw ⊢
  have hone2 := hr2.one
  have hil : (altIn a.kind a.name a.vars inn).length ≤ inn.length + a.vars.length + 1 := by
    unfold altIn
    split
    · simp
    · split
      · simp
      · omega
  refine VC.go 100 ?_
  cases r8 with
  | false =>
    simp only [push_cast, ↓reduceIte, Nat.reduceEqDiff, Nat.reduceAdd, Nat.reduceMul, Nat.reduceSub, Nat.reduceLT, Nat.reduceLeDiff, reduceCtorEq, Nat.reduceMod, Int.reduceEq, Int.reduceLT, Int.reduceLE, Int.reduceToNat, dite_true, hone2]
    refine CallV.own (i := 0) rfl (hE F2 b mb v2 v8 _ _ _ _ c2 _ hr2 (hX'.mono hF2) hs2 (hd.mono hF2) (hT.mono hF2) (by omega)) ?_
    rintro _ F4 _ hF4 ⟨v4, rfl, hr4⟩
    simp only [push_cast, ↓reduceIte, Nat.reduceEqDiff, Nat.reduceAdd, Nat.reduceMul, Nat.reduceSub, Nat.reduceLT, Nat.reduceLeDiff, reduceCtorEq, Nat.reduceMod, Int.reduceEq, Int.reduceLT, Int.reduceLE, Int.reduceToNat, dite_true]
    rw [← hw, whenC, if_neg Bool.false_ne_true] at hres
    rw [hres] at hr4
    exact sret rfl hr4
  | true =>
    simp only [push_cast, ↓reduceIte, Nat.reduceEqDiff, Nat.reduceAdd, Nat.reduceMul, Nat.reduceSub, Nat.reduceLT, Nat.reduceLeDiff, reduceCtorEq, Nat.reduceMod, Int.reduceEq, Int.reduceLT, Int.reduceLE, Int.reduceToNat, dite_true, hone2]
    refine CallV.own (i := 0) rfl (fail F2 b mb v2 c2 a.at_ 30 hr2) ?_
    rintro _ F3 _ hF3 ⟨v3, rfl, hr3⟩
    have hone3 := hr3.one
    simp only [push_cast, ↓reduceIte, Nat.reduceEqDiff, Nat.reduceAdd, Nat.reduceMul, Nat.reduceSub, Nat.reduceLT, Nat.reduceLeDiff, reduceCtorEq, Nat.reduceMod, Int.reduceEq, Int.reduceLT, Int.reduceLE, Int.reduceToNat, dite_true, hone3]
    refine CallV.own (i := 0) rfl (hE F3 b mb v3 v8 _ _ _ _ (failC c2 a.at_ 30) _ hr3 (hX'.mono (PH.le_trans hF2 hF3)) (hs2.mono hF3) (hd.mono (PH.le_trans hF2 hF3)) (hT.mono (PH.le_trans hF2 hF3)) (by omega)) ?_
    rintro _ F4 _ hF4 ⟨v4, rfl, hr4⟩
    simp only [push_cast, ↓reduceIte, Nat.reduceEqDiff, Nat.reduceAdd, Nat.reduceMul, Nat.reduceSub, Nat.reduceLT, Nat.reduceLeDiff, reduceCtorEq, Nat.reduceMod, Int.reduceEq, Int.reduceLT, Int.reduceLE, Int.reduceToNat, dite_true]
    rw [← hw, whenC, if_pos rfl] at hres
    rw [hres] at hr4
    exact sret rfl hr4
end Go.Proofs.YtoepmdbicdoieaaDoor.P
