/- Package scope: names, one scope about another; lists of names. -/
import Derived.Test.YtjeidgjhkjnkeaaDoorS0
import Derived.Test.YtjeidgjhkjnkeaaDoorE15
namespace Go.Proofs.YtjeidgjhkjnkeaaDoor.P
open Go Go.Eng Go.Proofs Go.Proofs.YtjeidgjhkjnkeaaDoor.T Go.Proofs.YtjeidgjhkjnkeaaDoor.K
set_option linter.unusedSimpArgs false
set_option linter.unusedVariables false
set_option maxRecDepth 100000
set_option maxHeartbeats 2000000
abbrev one64 : Value := .int .i64 1
/-- A map of names: each name that is in it has a 1. -/
def Names (es : Array MapEntry) (own : ByteArray → Bool) : Prop := ∃ l, MapAs Value.string es l ∧ ∀ s, mget l s = if own s = true then some one64 else none
/-- A scope, and the scopes about it: which names it has. -/
inductive Scp (F : PH) : Nat → Value → (ByteArray → Bool) → Prop
  | nil : Scp F 0 (.pointer none) (fun _ => false)
  | cons {n b mb c : Nat} {es : Array MapEntry} {v : Value} {own out : ByteArray → Bool} (hb : F b = some (.cells #[.map (some mb), v] 61 (0, 0))) (hm : F mb = some (.map es c)) (he : Names es own) (ho : Scp F n v out) : Scp F (n + 1) (.pointer (some ⟨b, 0, none⟩)) (fun s => own s || out s)
theorem Scp.mono {F G : PH} (hl : F.le G) {n : Nat} {v : Value} {m : ByteArray → Bool} (h : Scp F n v m) : Scp G n v m := by
  induction h with
  | nil => exact .nil
  | cons hb hm he _ ih => exact .cons (hl _ _ hb) (hl _ _ hm) he ih
theorem Scp.ptr {F : PH} {n : Nat} {v : Value} {m : ByteArray → Bool} (h : Scp F n v m) : ∃ p, v = .pointer p := by cases h <;> exact ⟨_, rfl⟩
theorem has (F : PH) (n : Nat) (v : Value) (m : ByteArray → Bool) (s : ByteArray) (h : Scp F n v m) : PFn Tryd.prog 16 [v, .string s] F (fun r _ => r = .bool (m s)) := by
  refine Fn.intro (n := 18) (ts := [4]) Tryd.func16 rfl rfl rfl rfl (by simp) fun B hB => VC.go 100 ?_
  simp only [push_cast, ↓reduceIte, Nat.reduceEqDiff, Nat.reduceAdd, Nat.reduceMul, Nat.reduceSub, Nat.reduceLT, Nat.reduceLeDiff, reduceCtorEq, Nat.reduceMod, Int.reduceEq, Int.reduceLT, Int.reduceLE, Int.reduceToNat, dite_true]
  refine VC.loopL (ι := Nat × Value × (ByteArray → Bool)) (fun i => [(0, .v i.2.1), (1, .v (.string s))]) (fun i => Scp F i.1 i.2.1 i.2.2 ∧ i.2.2 s = m s) (fun i => i.1) (n, v, m) ⟨h, rfl⟩ (by simp [subk, Eng.look]) ?_
  rintro ⟨k, w, m1⟩ ⟨hs, hm⟩ G hG
  dsimp only at hs hm hG ⊢
  refine VC.go 100 ?_
  cases hs with
  | nil =>
    simp only [push_cast, ↓reduceIte, Nat.reduceEqDiff, Nat.reduceAdd, Nat.reduceMul, Nat.reduceSub, Nat.reduceLT, Nat.reduceLeDiff, reduceCtorEq, Nat.reduceMod, Int.reduceEq, Int.reduceLT, Int.reduceLE, Int.reduceToNat, dite_true, Option.isNone_none]
    exact RetOk.p rfl (by rw [← hm]; rfl)
  | @cons n b mb c es v own out hb hmb he ho =>
    have h0 : F.cell ((⟨b, 0, none⟩ : Addr).add 0) = some (.map (some mb)) := by rw [add_zero', cell_one hb]; rfl
    have h1 : F.cell ((⟨b, 0, none⟩ : Addr).add 1) = some v := by
      have := cell_one hb 1
      simpa [Addr.add] using this
    obtain ⟨p, rfl⟩ := ho.ptr
    simp only [push_cast, ↓reduceIte, Nat.reduceEqDiff, Nat.reduceAdd, Nat.reduceMul, Nat.reduceSub, Nat.reduceLT, Nat.reduceLeDiff, reduceCtorEq, Nat.reduceMod, Int.reduceEq, Int.reduceLT, Int.reduceLE, Int.reduceToNat, dite_true, Option.isNone_some, h0]
    obtain ⟨l, hes, hg⟩ := he
    refine Eff.lookup keyStr rfl ty52 rfl Tryd.underlying9 ty3 rfl rfl (.inl hmb) hes ?_
    by_cases hw : own s = true
    · rw [show mget l s = some one64 from by rw [hg, if_pos hw]]
      simp only [push_cast, ↓reduceIte, Nat.reduceEqDiff, Nat.reduceAdd, Nat.reduceMul, Nat.reduceSub, Nat.reduceLT, Nat.reduceLeDiff, reduceCtorEq, Nat.reduceMod, Int.reduceEq, Int.reduceLT, Int.reduceLE, Int.reduceToNat, dite_true, Option.getD_some, Bool.false_eq_true]
      exact RetOk.p rfl (by rw [← hm]; simp [rval, hw])
    · rw [show mget l s = none from by rw [hg, if_neg hw]]
      simp only [push_cast, ↓reduceIte, Nat.reduceEqDiff, Nat.reduceAdd, Nat.reduceMul, Nat.reduceSub, Nat.reduceLT, Nat.reduceLeDiff, reduceCtorEq, Nat.reduceMod, Int.reduceEq, Int.reduceLT, Int.reduceLE, Int.reduceToNat, dite_true, Option.getD_none, Bool.false_eq_true, h1]
      exact hG (n, .pointer p, out) _ ⟨ho, by rw [← hm]; simp [hw]⟩ (by simp) (by simp [subk, Eng.look]) (List.Sublist.refl _) rfl rfl
theorem withU (F : PH) (p : Option Addr) (vl : Value) (l : List ByteArray) (hl : Strs F vl l) : Eng.Fn Tryd.prog 17 [.pointer p, vl] F [] (fun r F' R' => ∃ bt mb es c, r = .pointer (some ⟨bt, 0, none⟩) ∧ R' = [cell1 bt 61 [.map (some mb), .pointer p], PH.one mb (.map es c)] ∧ Names es (hasB l)) := by
  obtain ⟨pl, cl, rfl, hl1, hl2, hl3⟩ := hl
  refine Fn.intro (n := 25) (ts := [4]) Tryd.func17 rfl rfl rfl rfl (by simp) fun B hB => VC.go 100 ?_
  simp only [push_cast, ↓reduceIte, Nat.reduceEqDiff, Nat.reduceAdd, Nat.reduceMul, Nat.reduceSub, Nat.reduceLT, Nat.reduceLeDiff, reduceCtorEq, Nat.reduceMod, Int.reduceEq, Int.reduceLT, Int.reduceLE, Int.reduceToNat, dite_true]
  refine Eff.makeMap rfl fun mb => ?_
  simp only [push_cast, ↓reduceIte, Nat.reduceEqDiff, Nat.reduceAdd, Nat.reduceMul, Nat.reduceSub, Nat.reduceLT, Nat.reduceLeDiff, reduceCtorEq, Nat.reduceMod, Int.reduceEq, Int.reduceLT, Int.reduceLE, Int.reduceToNat, dite_true]
  intro bt
  refine VC.loopP (ι := Nat × Array MapEntry × Nat) (fun i => [(14, .v (.int .i64 i.1)), (13, .v (.int .i64 l.length)), (12, .v (.slice pl l.length cl)), (5, .o 0 bt 0)]) (fun _ => F) (fun i => [PH.one mb (.map i.2.1 i.2.2)]) (fun i => i.1 ≤ l.length ∧ Names i.2.1 (hasB (l.take i.1))) (fun i => l.length - i.1) (0, #[], 0) ⟨Nat.zero_le _, [], rfl, fun s => by simp [mget, hasB]⟩ (by simp [subk, Eng.look]) rfl (subR_refl _) ?_
  rintro ⟨k, es, c⟩ ⟨hk, he⟩ G hG
  dsimp only at hk he hG ⊢
  refine VC.go 100 ?_
  by_cases h : k < l.length
  case neg =>
    have h' : ¬ (k : Int) < (l.length : Int) := by omega
    rw [List.take_of_length_le (by omega)] at he
    simp only [push_cast, ↓reduceIte, Nat.reduceEqDiff, Nat.reduceAdd, Nat.reduceMul, Nat.reduceSub, Nat.reduceLT, Nat.reduceLeDiff, reduceCtorEq, Nat.reduceMod, Int.reduceEq, Int.reduceLT, Int.reduceLE, Int.reduceToNat, dite_true, h']
    exact ⟨_, _, rfl, RetR.own (i := 0) rfl, bt, mb, es, c, rfl, rfl, he⟩
  have h' : (k : Int) < (l.length : Int) := by omega
  have h0 : (0 : Int) ≤ (k : Int) := by omega
  obtain ⟨a, rfl, ha⟩ := hl3.elem1 (i := k) (v := .string l[k]) (by simp [h])
  have e2 : IntKind.i64.wrap ((k : Int) + 1) = ((k + 1 : Nat) : Int) := wadd k h (Nat.le_trans hl1 hl2)
  simp only [push_cast, ↓reduceIte, Nat.reduceEqDiff, Nat.reduceAdd, Nat.reduceMul, Nat.reduceSub, Nat.reduceLT, Nat.reduceLeDiff, reduceCtorEq, Nat.reduceMod, Int.reduceEq, Int.reduceLT, Int.reduceLE, Int.reduceToNat, dite_true, h', h0, ha]
  obtain ⟨lst, hes, hg⟩ := he
  refine Eff.update keyStr rfl rfl ty52 rfl Tryd.underlying9 rfl rfl rfl (List.Perm.refl _) hes fun es' c' hes' => ?_
  simp only [push_cast, ↓reduceIte, Nat.reduceEqDiff, Nat.reduceAdd, Nat.reduceMul, Nat.reduceSub, Nat.reduceLT, Nat.reduceLeDiff, reduceCtorEq, Nat.reduceMod, Int.reduceEq, Int.reduceLT, Int.reduceLE, Int.reduceToNat, dite_true, e2]
  refine hG (k + 1, es', c') _ ⟨by simp; omega, _, hes', fun s => ?_⟩ (by simp; omega) (by simp [subk, Eng.look]) (List.Sublist.refl _) rfl (subR_refl _)
  rw [mget_mput, hg, List.take_succ_eq_append_getElem h, hasB_snoc]
  cases hh : hasB (l.take k) s <;> by_cases e : l[k] = s <;> simp [e]
theorem with_ (F : PH) (n : Nat) (v : Value) (m : ByteArray → Bool) (vl : Value) (l : List ByteArray) (h : Scp F n v m) (hl : Strs F vl l) : PFn Tryd.prog 17 [v, vl] F (fun r F' => Scp F' (n + 1) r (fun s => hasB l s || m s)) := by
  obtain ⟨p, rfl⟩ := h.ptr
  have h1 := withU F p vl l hl
  have h2 := Eng.Fn.mono (Q' := fun r F' R' => F.le F' ∧ ∃ bt mb es c, r = .pointer (some ⟨bt, 0, none⟩) ∧ R' = [cell1 bt 61 [.map (some mb), .pointer p], PH.one mb (.map es c)] ∧ Names es (hasB l)) h1 fun _ _ _ hF q => ⟨hF, q⟩
  have h3 := Eng.Fn.frozen (Q' := fun r F' R' => F.le F' ∧ ∃ bt mb es c, r = .pointer (some ⟨bt, 0, none⟩) ∧ F' bt = some (.cells #[.map (some mb), .pointer p] 61 (0, 0)) ∧ R' = [PH.one mb (.map es c)] ∧ Names es (hasB l)) h2
    fun r F' R' ⟨hF, bt, mb, es, c, e1, e2, e3⟩ => ⟨cell1 bt 61 [.map (some mb), .pointer p], [PH.one mb (.map es c)], by rw [e2], fun F'' k1 k2 => ⟨PH.le_trans hF k1, bt, mb, es, c, e1, k2 bt _ (PH.one_self _ _), rfl, e3⟩⟩
  exact Eng.Fn.frozen h3 fun r F' R' ⟨hF, bt, mb, es, c, e1, e2, e3, e4⟩ => ⟨PH.one mb (.map es c), [], by rw [e3], fun F'' k1 k2 => ⟨rfl, by
    subst e1
    exact .cons (k1 _ _ e2) (k2 mb _ (PH.one_self _ _)) e4 (h.mono (PH.le_trans hF k1))⟩⟩
theorem empty (F : PH) (av : Value) (a : List ByteArray) (ha : Strs F av a) : PFn Tryd.prog 33 [av] F (fun v _ => v = .bool (hasB a ⟨#[]⟩)) := by
  obtain ⟨pa, ca, rfl, ha1, ha2, ha3⟩ := ha
  refine Fn.intro (n := 14) (ts := [2]) Tryd.func33 rfl rfl rfl rfl (by simp) fun B hB => VC.go 100 ?_
  simp only [push_cast, ↓reduceIte, Nat.reduceEqDiff, Nat.reduceAdd, Nat.reduceMul, Nat.reduceSub, Nat.reduceLT, Nat.reduceLeDiff, reduceCtorEq, Nat.reduceMod, Int.reduceEq, Int.reduceLT, Int.reduceLE, Int.reduceToNat, dite_true]
  refine VC.loopL (fun i : Nat => [(7, .v (.int .i64 i)), (6, .v (.int .i64 a.length)), (5, .v (.slice pa a.length ca))]) (fun i => i ≤ a.length ∧ ¬ (⟨#[]⟩ : ByteArray) ∈ a.take i) (fun i => a.length - i) 0 ⟨Nat.zero_le _, by simp⟩ (by simp [subk, Eng.look]) ?_
  intro i ⟨hi, ht⟩ G hG
  refine VC.go 100 ?_
  by_cases h : i < a.length
  case neg =>
    have h' : ¬ (i : Int) < (a.length : Int) := by omega
    simp only [push_cast, ↓reduceIte, Nat.reduceEqDiff, Nat.reduceAdd, Nat.reduceMul, Nat.reduceSub, Nat.reduceLT, Nat.reduceLeDiff, reduceCtorEq, Nat.reduceMod, Int.reduceEq, Int.reduceLT, Int.reduceLE, Int.reduceToNat, dite_true, h']
    rw [List.take_of_length_le (by omega)] at ht
    exact RetOk.p rfl (by rw [hasB_no ht]; rfl)
  have h' : (i : Int) < (a.length : Int) := by omega
  have h0 : (0 : Int) ≤ (i : Int) := by omega
  obtain ⟨qa, rfl, hqa⟩ := ha3.elem1 (i := i) (v := .string a[i]) (by simp [h])
  have e2 : IntKind.i64.wrap ((i : Int) + 1) = ((i + 1 : Nat) : Int) := wadd i h (Nat.le_trans ha1 ha2)
  by_cases g2 : a[i] = ⟨#[]⟩
  · simp only [push_cast, ↓reduceIte, Nat.reduceEqDiff, Nat.reduceAdd, Nat.reduceMul, Nat.reduceSub, Nat.reduceLT, Nat.reduceLeDiff, reduceCtorEq, Nat.reduceMod, Int.reduceEq, Int.reduceLT, Int.reduceLE, Int.reduceToNat, dite_true, h', h0, hqa, eq_true g2]
    exact RetOk.p rfl (by
      have : (⟨#[]⟩ : ByteArray) ∈ a := g2 ▸ List.getElem_mem h
      rw [hasB_iff.2 this]; rfl)
  · simp only [push_cast, ↓reduceIte, Nat.reduceEqDiff, Nat.reduceAdd, Nat.reduceMul, Nat.reduceSub, Nat.reduceLT, Nat.reduceLeDiff, reduceCtorEq, Nat.reduceMod, Int.reduceEq, Int.reduceLT, Int.reduceLE, Int.reduceToNat, dite_true, h', h0, hqa, g2, e2]
    refine hG (i + 1) _ ⟨by omega, ?_⟩ (by omega) (by simp [subk, Eng.look]) (List.Sublist.refl _) rfl rfl
    rw [List.take_succ_eq_append_getElem h]
    simp only [List.mem_append, List.mem_singleton, not_or]
    exact ⟨ht, fun e => g2 e.symm⟩
/-- The first of n things that is like one ahead. -/
def dupAt (p : Nat → Nat → Bool) (n i : Nat) : Prop := (i < n ∧ (∃ k, k < i ∧ p i k = true) ∧ ∀ j, j < i → ∀ k, k < j → p j k = false) ∨ (i = n ∧ ∀ j, j < n → ∀ k, k < j → p j k = false)
theorem twice (F : PH) (n : Nat) (hn : n ≤ maxLen) (g : FuncId) (first cap : Array Value) (p : Nat → Nat → Bool)
    (hg : ∀ i k, i < n → k < i → ∀ F', F.le F' → PFn Tryd.prog g (first.toList ++ [.int .i64 i, .int .i64 k] ++ cap.toList) F' (fun v _ => v = .bool (p i k))) :
    PFn Tryd.prog 34 [.int .i64 n, .func (.func g) first cap] F (fun v _ => ∃ i, v = .int .i64 (i : Nat) ∧ dupAt p n i) := by
  refine Fn.intro (n := 23) (ts := [4]) Tryd.func34 rfl rfl rfl rfl (by simp) fun B hB => VC.go 100 ?_
  simp only [push_cast, ↓reduceIte, Nat.reduceEqDiff, Nat.reduceAdd, Nat.reduceMul, Nat.reduceSub, Nat.reduceLT, Nat.reduceLeDiff, reduceCtorEq, Nat.reduceMod, Int.reduceEq, Int.reduceLT, Int.reduceLE, Int.reduceToNat, dite_true]
  refine VC.loopF (ι := Nat × PH) (fun i => [(8, .v (.int .i64 i.1)), (7, .v (.int .i64 n)), (0, .v (.int .i64 n)), (1, .v (.func (.func g) first cap))]) (fun i => i.2) (fun i => i.1 ≤ n ∧ F.le i.2 ∧ ∀ j, j < i.1 → ∀ k, k < j → p j k = false) (fun i => n - i.1) (0, F) ⟨Nat.zero_le _, PH.le_refl _, fun _ h => absurd h (Nat.not_lt_zero _)⟩ (by simp [subk, Eng.look]) rfl ?_
  rintro ⟨i, F1⟩ ⟨hi, hF1, ht⟩ G hG
  dsimp only at hi hF1 ht hG ⊢
  refine VC.go 100 ?_
  by_cases h : i < n
  case neg =>
    have h' : ¬ (i : Int) < (n : Int) := by omega
    simp only [push_cast, ↓reduceIte, Nat.reduceEqDiff, Nat.reduceAdd, Nat.reduceMul, Nat.reduceSub, Nat.reduceLT, Nat.reduceLeDiff, reduceCtorEq, Nat.reduceMod, Int.reduceEq, Int.reduceLT, Int.reduceLE, Int.reduceToNat, dite_true, h']
    obtain rfl : i = n := by omega
    exact RetOk.p rfl ⟨i, rfl, .inr ⟨rfl, ht⟩⟩
  have h' : (i : Int) < (n : Int) := by omega
  have e2 : IntKind.i64.wrap ((i : Int) + 1) = ((i + 1 : Nat) : Int) := wadd i h hn
  simp only [push_cast, ↓reduceIte, Nat.reduceEqDiff, Nat.reduceAdd, Nat.reduceMul, Nat.reduceSub, Nat.reduceLT, Nat.reduceLeDiff, reduceCtorEq, Nat.reduceMod, Int.reduceEq, Int.reduceLT, Int.reduceLE, Int.reduceToNat, dite_true, h']
  refine VC.loopF (ι := Nat × PH) (fun j => [(12, .v (.int .i64 j.1)), (11, .v (.int .i64 i)), (5, .v (.int .i64 i)), (8, .v (.int .i64 i)), (7, .v (.int .i64 n)), (0, .v (.int .i64 n)), (1, .v (.func (.func g) first cap))]) (fun j => j.2) (fun j => j.1 ≤ i ∧ F1.le j.2 ∧ ∀ k, k < j.1 → p i k = false) (fun j => i - j.1) (0, F1) ⟨Nat.zero_le _, PH.le_refl _, fun _ h => absurd h (Nat.not_lt_zero _)⟩ (by simp [subk, Eng.look]) rfl ?_
  rintro ⟨k, F2⟩ ⟨hk, hF2, ht2⟩ G2 hG2
  dsimp only at hk hF2 ht2 hG2 ⊢
  refine VC.go 100 ?_
  by_cases h2 : k < i
  case neg =>
    have h2' : ¬ (k : Int) < (i : Int) := by omega
    obtain rfl : k = i := by omega
    simp only [push_cast, ↓reduceIte, Nat.reduceEqDiff, Nat.reduceAdd, Nat.reduceMul, Nat.reduceSub, Nat.reduceLT, Nat.reduceLeDiff, reduceCtorEq, Nat.reduceMod, Int.reduceEq, Int.reduceLT, Int.reduceLE, Int.reduceToNat, dite_true, h2', e2]
    refine hG (k + 1, F2) _ ⟨by simp; omega, PH.le_trans hF1 hF2, fun j hj k' hk' => ?_⟩ (by simp; omega) (by simp [subk, Eng.look]) (List.Sublist.refl _) rfl rfl
    by_cases e : j = k
    · subst e; exact ht2 k' hk'
    · exact ht j (by simp at hj; omega) k' hk'
  have h2' : (k : Int) < (i : Int) := by omega
  have e3 : IntKind.i64.wrap ((k : Int) + 1) = ((k + 1 : Nat) : Int) := wadd k (Nat.lt_trans h2 h) hn
  simp only [push_cast, ↓reduceIte, Nat.reduceEqDiff, Nat.reduceAdd, Nat.reduceMul, Nat.reduceSub, Nat.reduceLT, Nat.reduceLeDiff, reduceCtorEq, Nat.reduceMod, Int.reduceEq, Int.reduceLT, Int.reduceLE, Int.reduceToNat, dite_true, h2']
  refine CallV.pure (hg i k h h2 F2 (PH.le_trans hF1 hF2)) ?_
  rintro _ F3 hF3 rfl
  cases hp : p i k with
  | true =>
    simp only [push_cast, ↓reduceIte, Nat.reduceEqDiff, Nat.reduceAdd, Nat.reduceMul, Nat.reduceSub, Nat.reduceLT, Nat.reduceLeDiff, reduceCtorEq, Nat.reduceMod, Int.reduceEq, Int.reduceLT, Int.reduceLE, Int.reduceToNat, dite_true]
    exact RetOk.p rfl ⟨i, rfl, .inl ⟨h, ⟨k, h2, hp⟩, ht⟩⟩
  | false =>
    simp only [push_cast, ↓reduceIte, Nat.reduceEqDiff, Nat.reduceAdd, Nat.reduceMul, Nat.reduceSub, Nat.reduceLT, Nat.reduceLeDiff, reduceCtorEq, Nat.reduceMod, Int.reduceEq, Int.reduceLT, Int.reduceLE, Int.reduceToNat, dite_true, e3]
    refine hG2 (k + 1, F3) _ ⟨by simp; omega, PH.le_trans hF2 hF3, fun k' hk' => ?_⟩ (by simp; omega) (by simp [subk, Eng.look]) (List.Sublist.refl _) rfl rfl
    by_cases e : k' = k
    · subst e; exact hp
    · exact ht2 k' (by simp at hk'; omega)
end Go.Proofs.YtjeidgjhkjnkeaaDoor.P
