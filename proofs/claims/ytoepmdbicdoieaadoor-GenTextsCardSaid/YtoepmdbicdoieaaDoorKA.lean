/- My texts S0 K0 K1 K2 K3, in one. -/
import Derived.Test.YtoepmdbicdoieaaDoorTy
import Derived.Test.YtoepmdbicdoieaaDoorXA
import Derived.Test.YtoepmdbicdoieaaDoorED
import Derived.IntWalk
/- Lists of names, as they lie; small facts of all walks. -/
namespace Go.Proofs.YtoepmdbicdoieaaDoor.K
open Go Go.Eng Go.Proofs Go.Proofs.YtoepmdbicdoieaaDoor.T
set_option linter.unusedSimpArgs false
set_option linter.unusedVariables false
set_option maxRecDepth 100000
theorem mixed : Tryd.prog.follows .mixedOrders = true := by kernel_rfl
theorem wadd (k : Nat) {c : Nat} (h : k < c) (hc : c ≤ maxLen) : IntKind.i64.wrap ((k : Int) + 1) = ((k + 1 : Nat) : Int) := by
  unfold maxLen at hc
  rw [IntWalk.i64_in _ (by omega)]
  simp
theorem one_max : 1 ≤ maxLen := by decide
abbrev RowS (P : Program) (f : FuncId) (args : List Value) (F : PH) (l : List ByteArray) : Prop := RowFn P f args F 9 1 (l.map .string)
theorem sl_strs {F : PH} {v : Value} {m : Nat} {l : List ByteArray} (hm : (l.map Value.string).length = m * 1) (h : Sl F 1 v m (l.map .string)) : Strs F v l := by
  simp at hm; unfold Strs; rw [hm]; exact h
theorem strs_blk {F : PH} {b : Nat} {l : List ByteArray} {e : TypeId} {fr : Nat × Nat} (h : F b = some (.cells (l.map Value.string).toArray e fr)) (hl : l.length ≤ maxLen) : Strs F (.slice (some ⟨b, 0, none⟩) l.length l.length) l :=
  ⟨_, _, rfl, Nat.le_refl _, hl, Src.blk h (by simp)⟩
theorem Row.strs {r F : PH} {e : TypeId} {v : Value} {l : List ByteArray} (h : Row r e 1 v (l.map .string)) (hl : r.le F) : Strs F v l := by
  obtain ⟨m, h1, h2⟩ := h.sl hl
  exact sl_strs h1 h2
def bs (l : List UInt8) : ByteArray := ⟨l.toArray⟩
theorem nil_strs (F : PH) : Strs F (.slice none 0 0) [] := ⟨none, 0, rfl, Nat.le_refl _, Nat.zero_le _, rfl, fun h => absurd h (by simp)⟩
theorem nil_sle {α : Type} (F : PH) (sz : Nat) (R : α → List Value → Prop) : SlE F sz R (.slice none 0 0) [] := ⟨[], ⟨none, 0, rfl, Nat.le_refl _, Nat.zero_le _, by simp, fun h => absurd h (by simp)⟩, rfl⟩
theorem atomVals_at : ∀ (l : List (ByteArray × Int)) (i : Nat) (h : i < l.length), ((atomVals l).drop (i * 2)).take 2 = [.string (l[i]).1, .int .i64 (l[i]).2]
  | a :: l, 0, h => rfl
  | a :: l, i + 1, h => by
    have := atomVals_at l i (by simpa using h)
    rw [show (i + 1) * 2 = i * 2 + 1 + 1 from by omega]
    simpa [atomVals] using this
/-- The first of them. -/
theorem strs_take {F : PH} {q : Addr} {c : Nat} {l : List ByteArray} (h : Strs F (.slice (some q) l.length c) l) {k : Nat} (hk : k ≤ l.length) : Strs F (.slice (some q) k c) (l.take k) := by
  obtain ⟨p, c', e, h1, h2, h3, h4⟩ := h
  cases e
  have hl : (l.take k).length = k := by simp; omega
  refine ⟨_, _, by rw [hl], by omega, h2, by simp, fun hpos => ?_⟩
  obtain ⟨a, ha, hc⟩ := h4 (by simp at hpos; omega)
  cases ha
  refine ⟨_, rfl, ?_⟩
  have := cells_sub hc (o := 0) (m := k * 1) (by omega)
  rw [add_zero'] at this
  rw [hl, List.map_take]
  simpa using this
def hasB (l : List ByteArray) (s : ByteArray) : Bool := l.any (fun n => decide (n = s))
theorem hasB_iff {l : List ByteArray} {s : ByteArray} : hasB l s = true ↔ s ∈ l := by simp [hasB]
theorem hasB_no {l : List ByteArray} {s : ByteArray} (h : ¬ s ∈ l) : hasB l s = false := Bool.eq_false_iff.2 fun e => h (hasB_iff.1 e)
theorem hasB_snoc (l : List ByteArray) (x s : ByteArray) : hasB (l ++ [x]) s = (hasB l s || decide (x = s)) := by simp [hasB]
/-- Has a list a text twice? -/
def twiceB : List ByteArray → List ByteArray → Bool
  | _, [] => false
  | p, s :: l => hasB p s || twiceB (p ++ [s]) l
theorem twiceB_take : ∀ (l p : List ByteArray), twiceB p l = true ↔ ∃ i, ∃ h : i < l.length, hasB (p ++ l.take i) l[i] = true
  | [], p => by simp [twiceB]
  | s :: l, p => by
    simp only [twiceB, Bool.or_eq_true]
    constructor
    · rintro (h | h)
      · exact ⟨0, by simp, by simpa using h⟩
      · obtain ⟨i, hi, h⟩ := (twiceB_take l _).1 h
        exact ⟨i + 1, by simpa using hi, by simpa using h⟩
    · rintro ⟨i, hi, h⟩
      cases i with
      | zero => exact .inl (by simpa using h)
      | succ i => exact .inr ((twiceB_take l _).2 ⟨i, by simpa using hi, by simpa using h⟩)
theorem twiceB_no : ∀ (l p : List ByteArray), p.Nodup → (twiceB p l = false ↔ (p ++ l).Nodup)
  | [], p, h => by simp [twiceB, h]
  | s :: l, p, h => by
    simp only [twiceB, Bool.or_eq_false_iff]
    by_cases hs : s ∈ p
    · rw [hasB_iff.2 hs]
      simp only [reduceCtorEq, false_and, false_iff]
      intro hn
      exact (List.nodup_append.1 hn).2.2 s hs s List.mem_cons_self rfl
    · rw [hasB_no hs]
      have hp : (p ++ [s]).Nodup := by
        rw [List.nodup_append]
        exact ⟨h, by simp, fun a ha b hb => by simp at hb; subst hb; exact fun e => hs (e ▸ ha)⟩
      rw [twiceB_no l _ hp]
      simp
/-- A constructor that is told. -/
structure Dat where
  name : ByteArray
  arity : Int
  at_ : Int
def RDat (d : Dat) (cs : List Value) : Prop := cs = [.string d.name, .int .i64 d.arity, .int .i64 d.at_]
theorem RDat.len {d : Dat} {cs : List Value} (h : RDat d cs) : cs.length = 3 := by rw [h]; rfl
abbrev Dats (F : PH) (v : Value) (l : List Dat) : Prop := SlE F 3 RDat v l
theorem Dats.mono' {F G : PH} {v : Value} {l : List Dat} (h : Dats F v l) (hl : F.le G) : Dats G v l := SlE.mono h hl fun _ _ _ h => h
end Go.Proofs.YtoepmdbicdoieaaDoor.K

/- The document's checker: has, twice, with, Names. -/
namespace Go.Proofs.YtoepmdbicdoieaaDoor.K
open Go Go.Eng Go.Proofs Go.Proofs.YtoepmdbicdoieaaDoor.T
set_option linter.unusedSimpArgs false
set_option linter.unusedVariables false
set_option maxRecDepth 100000
theorem has (F : PH) (av : Value) (a : List ByteArray) (s : ByteArray) (ha : Strs F av a) : PFn Tryd.prog 45 [av, .string s] F (fun v _ => v = .bool (hasB a s)) := by
  obtain ⟨pa, ca, rfl, ha1, ha2, ha3⟩ := ha
  refine Fn.intro (n := 18) (ts := [4]) Tryd.func45 rfl rfl rfl rfl (by simp) fun B hB => VC.go 100 ?_
  simp only [push_cast, ↓reduceIte, Nat.reduceEqDiff, Nat.reduceAdd, Nat.reduceMul, Nat.reduceSub, Nat.reduceLT, Nat.reduceLeDiff, reduceCtorEq, Nat.reduceMod, Int.reduceEq, Int.reduceLT, Int.reduceLE, Int.reduceToNat, dite_true]
  refine VC.loopL (fun i : Nat => [(5, .v (.int .i64 i)), (0, .v (.slice pa a.length ca)), (1, .v (.string s))]) (fun i => i ≤ a.length ∧ ¬ s ∈ a.take i) (fun i => a.length - i) 0 ⟨Nat.zero_le _, by simp⟩ (by simp [subk, Eng.look]) ?_
  intro i ⟨hi, ht⟩ G hG
  refine VC.go 100 ?_
  by_cases h : i < a.length
  case neg =>
    have h' : ¬ (i : Int) < (a.length : Int) := by omega
    simp only [push_cast, ↓reduceIte, Nat.reduceEqDiff, Nat.reduceAdd, Nat.reduceMul, Nat.reduceSub, Nat.reduceLT, Nat.reduceLeDiff, reduceCtorEq, Nat.reduceMod, Int.reduceEq, Int.reduceLT, Int.reduceLE, Int.reduceToNat, dite_true, h']
    rw [List.take_of_length_le (by omega)] at ht
    exact RetOk.p rfl (by rw [hasB_no ht]; rfl)
  have h' : (i : Int) < (a.length : Int) := by omega
  have h0 : (0 : Int) ≤ (i : Int) := by omega
  obtain ⟨qa, rfl, hqa⟩ := ha3.elem1 (i := i) (v := .string a[i]) (by simp [h])
  have e2 : IntKind.i64.wrap ((i : Int) + 1) = ((i + 1 : Nat) : Int) := wadd i h (Nat.le_trans ha1 ha2)
  by_cases g2 : a[i] = s
  · simp only [push_cast, ↓reduceIte, Nat.reduceEqDiff, Nat.reduceAdd, Nat.reduceMul, Nat.reduceSub, Nat.reduceLT, Nat.reduceLeDiff, reduceCtorEq, Nat.reduceMod, Int.reduceEq, Int.reduceLT, Int.reduceLE, Int.reduceToNat, dite_true, h', h0, hqa, eq_true g2]
    exact RetOk.p rfl (by
      have : s ∈ a := g2 ▸ List.getElem_mem h
      rw [hasB_iff.2 this]; rfl)
  · simp only [push_cast, ↓reduceIte, Nat.reduceEqDiff, Nat.reduceAdd, Nat.reduceMul, Nat.reduceSub, Nat.reduceLT, Nat.reduceLeDiff, reduceCtorEq, Nat.reduceMod, Int.reduceEq, Int.reduceLT, Int.reduceLE, Int.reduceToNat, dite_true, h', h0, hqa, g2, e2]
    refine hG (i + 1) _ ⟨by omega, ?_⟩ (by omega) (by simp [subk, Eng.look]) (List.Sublist.refl _) rfl rfl
    rw [List.take_succ_eq_append_getElem h]
    simp only [List.mem_append, List.mem_singleton, not_or]
    exact ⟨ht, fun e => g2 e.symm⟩
theorem twice (F : PH) (av : Value) (a : List ByteArray) (ha : Strs F av a) : PFn Tryd.prog 88 [av] F (fun v _ => v = .bool (twiceB [] a)) := by
  have ha' := ha
  obtain ⟨pa, ca, rfl, ha1, ha2, ha3⟩ := ha
  refine Fn.intro (n := 18) (ts := [2]) Tryd.func88 rfl rfl rfl rfl (by simp) fun B hB => VC.go 100 ?_
  simp only [push_cast, ↓reduceIte, Nat.reduceEqDiff, Nat.reduceAdd, Nat.reduceMul, Nat.reduceSub, Nat.reduceLT, Nat.reduceLeDiff, reduceCtorEq, Nat.reduceMod, Int.reduceEq, Int.reduceLT, Int.reduceLE, Int.reduceToNat, dite_true]
  refine VC.loopF (ι := Nat × PH) (fun i => [(3, .v (.int .i64 i.1)), (0, .v (.slice pa a.length ca))]) (fun i => i.2) (fun i => i.1 ≤ a.length ∧ F.le i.2 ∧ ∀ j, ∀ h : j < a.length, j < i.1 → hasB (a.take j) a[j] = false) (fun i => a.length - i.1) (0, F) ⟨Nat.zero_le _, PH.le_refl _, fun _ _ h => absurd h (Nat.not_lt_zero _)⟩ (by simp [subk, Eng.look]) rfl ?_
  rintro ⟨i, F1⟩ ⟨hi, hF1, ht⟩ G hG
  dsimp only at hi hF1 ht hG ⊢
  refine VC.go 100 ?_
  by_cases h : i < a.length
  case neg =>
    have h' : ¬ (i : Int) < (a.length : Int) := by omega
    simp only [push_cast, ↓reduceIte, Nat.reduceEqDiff, Nat.reduceAdd, Nat.reduceMul, Nat.reduceSub, Nat.reduceLT, Nat.reduceLeDiff, reduceCtorEq, Nat.reduceMod, Int.reduceEq, Int.reduceLT, Int.reduceLE, Int.reduceToNat, dite_true, h']
    refine RetOk.p rfl ?_
    have : twiceB [] a = false := Bool.eq_false_iff.2 fun e => by
      obtain ⟨j, hj, e⟩ := (twiceB_take a []).1 e
      rw [List.nil_append, ht j hj (by omega)] at e
      cases e
    rw [this]; rfl
  have h' : (i : Int) < (a.length : Int) := by omega
  have h0 : (0 : Int) ≤ (i : Int) := by omega
  have h3 : (i : Int) ≤ (ca : Int) := by omega
  have h4 : ¬ ca = 0 := by omega
  obtain ⟨qa, rfl, hqa⟩ := (ha3.mono hF1).elem1 (i := i) (v := .string a[i]) (by simp [h])
  have e2 : IntKind.i64.wrap ((i : Int) + 1) = ((i + 1 : Nat) : Int) := wadd i h (Nat.le_trans ha1 ha2)
  simp only [push_cast, ↓reduceIte, Nat.reduceEqDiff, Nat.reduceAdd, Nat.reduceMul, Nat.reduceSub, Nat.reduceLT, Nat.reduceLeDiff, reduceCtorEq, Nat.reduceMod, Int.reduceEq, Int.reduceLT, Int.reduceLE, Int.reduceToNat, dite_true, h']
  refine VC.draw (.q 0 (.q 1 (.q 2 (.q 3 (.q 4 (.q 5 (.q 6 (.e 7 (.done))))))))) mixed (by rfl) ?_
  simp only [push_cast, ↓reduceIte, Nat.reduceEqDiff, Nat.reduceAdd, Nat.reduceMul, Nat.reduceSub, Nat.reduceLT, Nat.reduceLeDiff, reduceCtorEq, Nat.reduceMod, Int.reduceEq, Int.reduceLT, Int.reduceLE, Int.reduceToNat, dite_true, h', h0, h3, h4, hqa, Nat.zero_mul, Nat.sub_zero, Option.map_some, add_zero']
  refine CallV.pure (has F1 _ (a.take i) a[i] (strs_take (ha'.mono hF1) (by omega))) ?_
  rintro _ F2 hF2 rfl
  simp only [push_cast, ↓reduceIte, Nat.reduceEqDiff, Nat.reduceAdd, Nat.reduceMul, Nat.reduceSub, Nat.reduceLT, Nat.reduceLeDiff, reduceCtorEq, Nat.reduceMod, Int.reduceEq, Int.reduceLT, Int.reduceLE, Int.reduceToNat, dite_true]
  refine VC.go 100 ?_
  cases hh : hasB (a.take i) a[i] with
  | true =>
    simp only [push_cast, ↓reduceIte, Nat.reduceEqDiff, Nat.reduceAdd, Nat.reduceMul, Nat.reduceSub, Nat.reduceLT, Nat.reduceLeDiff, reduceCtorEq, Nat.reduceMod, Int.reduceEq, Int.reduceLT, Int.reduceLE, Int.reduceToNat, dite_true]
    refine RetOk.p rfl ?_
    rw [(twiceB_take a []).2 ⟨i, h, by simpa using hh⟩]; rfl
  | false =>
    simp only [push_cast, ↓reduceIte, Nat.reduceEqDiff, Nat.reduceAdd, Nat.reduceMul, Nat.reduceSub, Nat.reduceLT, Nat.reduceLeDiff, reduceCtorEq, Nat.reduceMod, Int.reduceEq, Int.reduceLT, Int.reduceLE, Int.reduceToNat, dite_true, e2]
    refine hG (i + 1, F2) _ ⟨by simp; omega, PH.le_trans hF1 hF2, fun j hj hlt => ?_⟩ (by simp; omega) (by simp [subk, Eng.look]) (List.Sublist.refl _) rfl rfl
    by_cases e : j = i
    · subst e; exact hh
    · exact ht j hj (by simp at hlt; omega)
theorem withs (F : PH) (av bv : Value) (a b : List ByteArray) (ha : Strs F av a) (hb : Strs F bv b) (hl : a.length + b.length ≤ 1000000000) : RowS Tryd.prog 90 [av, bv] F (a ++ b) := by
  obtain ⟨pa, ca, rfl, ha1, ha2, ha3⟩ := ha
  obtain ⟨pb, cb, rfl, hb1, hb2, hb3⟩ := hb
  refine Fn.intro (n := 10) (ts := [4]) Tryd.func90 rfl rfl rfl rfl (by simp) fun B hB => VC.go 100 ?_
  simp only [push_cast, ↓reduceIte, Nat.reduceEqDiff, Nat.reduceAdd, Nat.reduceMul, Nat.reduceSub, Nat.reduceLT, Nat.reduceLeDiff, reduceCtorEq, Nat.reduceMod, Int.reduceEq, Int.reduceLT, Int.reduceLE, Int.reduceToNat, dite_true]
  intro bb
  refine Eff.append (xs := []) (ys := a.map .string) rfl rfl rfl ty44 rfl ty9 rfl (by decide) rfl rfl (List.Perm.refl _) (Row.begin bb _ _) ha3 (by simp [Value.oneCell']) (by simp; omega) (by decide) ?_
  intro v1 r1 hr1
  simp only [push_cast, ↓reduceIte, Nat.reduceEqDiff, Nat.reduceAdd, Nat.reduceMul, Nat.reduceSub, Nat.reduceLT, Nat.reduceLeDiff, reduceCtorEq, Nat.reduceMod, Int.reduceEq, Int.reduceLT, Int.reduceLE, Int.reduceToNat, dite_true]
  refine Eff.append (xs := a.map .string) (ys := b.map .string) rfl rfl rfl ty44 rfl ty9 rfl (by decide) rfl rfl (List.Perm.refl _) hr1 hb3 (by simp [Value.oneCell']) (by simp; omega) (by decide) ?_
  intro v2 r2 hr2
  simp only [push_cast, ↓reduceIte, Nat.reduceEqDiff, Nat.reduceAdd, Nat.reduceMul, Nat.reduceSub, Nat.reduceLT, Nat.reduceLeDiff, reduceCtorEq, Nat.reduceMod, Int.reduceEq, Int.reduceLT, Int.reduceLE, Int.reduceToNat, dite_true]
  exact ⟨_, [r2], rfl, RetR.refl _, r2, rfl, by rw [List.map_append]; exact hr2⟩
theorem namesF (F : PH) (bv : Value) (l : List Bind) (hl : SlE F 11 (RBind F) bv l) (hb : l.length ≤ 100000000) : RowS Tryd.prog 44 [bv] F (l.map Bind.name) := by
  have hl' := hl
  obtain ⟨pl, cl, rfl, hl1, hl2⟩ := hl.val
  refine Fn.intro (n := 20) (ts := [2]) Tryd.func44 rfl rfl rfl rfl (by simp) fun B hB => VC.emp ?_
  refine VC.go 100 ?_
  simp only [push_cast, ↓reduceIte, Nat.reduceEqDiff, Nat.reduceAdd, Nat.reduceMul, Nat.reduceSub, Nat.reduceLT, Nat.reduceLeDiff, reduceCtorEq, Nat.reduceMod, Int.reduceEq, Int.reduceLT, Int.reduceLE, Int.reduceToNat, dite_true]
  refine VC.loopG (ι := Nat × Value × PH × PH) (fun i => [(4, .v (.int .i64 i.1)), (3, .v i.2.1), (0, .v (.slice pl l.length cl))]) (fun i => i.2.2.1) (fun i => [i.2.2.2]) (fun i => i.1 ≤ l.length ∧ F.le i.2.2.1 ∧ Row i.2.2.2 9 1 i.2.1 (((l.take i.1).map Bind.name).map .string)) (fun i => l.length - i.1) (0, .slice none 0 0, F, PH.emp) ⟨Nat.zero_le _, PH.le_refl _, Row.nil _ _⟩ (by simp [subk, Eng.look]) rfl (List.Sublist.refl _) ?_
  rintro ⟨k, v, F1, r⟩ ⟨hk, hF1, hrow⟩ G hG
  dsimp only at hk hF1 hrow hG ⊢
  refine VC.go 100 ?_
  by_cases h : k < l.length
  case neg =>
    have h' : ¬ (k : Int) < (l.length : Int) := by omega
    simp only [push_cast, ↓reduceIte, Nat.reduceEqDiff, Nat.reduceAdd, Nat.reduceMul, Nat.reduceSub, Nat.reduceLT, Nat.reduceLeDiff, reduceCtorEq, Nat.reduceMod, Int.reduceEq, Int.reduceLT, Int.reduceLE, Int.reduceToNat, dite_true, h']
    rw [List.take_of_length_le (by omega)] at hrow
    exact ⟨_, [r], rfl, RetR.refl _, r, rfl, hrow⟩
  have h' : (k : Int) < (l.length : Int) := by omega
  have h0 : (0 : Int) ≤ (k : Int) := by omega
  obtain ⟨q, _, cs, eq, _, _, kl, kr⟩ := (hl'.mono (R' := RBind F1) hF1 (fun _ _ _ h => h.mono hF1)).elem (by decide) (i := k) (a := l[k]) (List.getElem?_eq_getElem h) (fun _ _ h => h.len)
  cases eq
  obtain ⟨va, c, rfl, hva, hvc⟩ := RBind_iff.1 kr
  obtain ⟨wa, wb, we, wl, rfl, wx⟩ := RExp_iff.1 hvc
  have e2 : IntKind.i64.wrap ((k : Int) + 1) = ((k + 1 : Nat) : Int) := wadd k h (Nat.le_trans hl1 hl2)
  have kc := cell_at kl (o := 0) rfl
  simp only [push_cast, ↓reduceIte, Nat.reduceEqDiff, Nat.reduceAdd, Nat.reduceMul, Nat.reduceSub, Nat.reduceLT, Nat.reduceLeDiff, reduceCtorEq, Nat.reduceMod, Int.reduceEq, Int.reduceLT, Int.reduceLE, Int.reduceToNat, dite_true, h', h0, kc]
  intro b2 F3 hF3 hb3
  refine Eff.append (xs := ((l.take k).map Bind.name).map .string) (ys := [.string (l[k]).name]) rfl rfl rfl ty44 rfl ty9 rfl (by decide) rfl rfl (List.Perm.refl _) hrow (Src.blk hb3 rfl) (by simp [Value.oneCell']) (by simp; omega) (by decide) ?_
  intro v' r' hrow'
  simp only [push_cast, ↓reduceIte, Nat.reduceEqDiff, Nat.reduceAdd, Nat.reduceMul, Nat.reduceSub, Nat.reduceLT, Nat.reduceLeDiff, reduceCtorEq, Nat.reduceMod, Int.reduceEq, Int.reduceLT, Int.reduceLE, Int.reduceToNat, dite_true, e2]
  exact hG (k + 1, v', F3, r') _ ⟨by omega, PH.le_trans hF1 hF3, by rw [List.take_succ_eq_append_getElem h, List.map_append, List.map_append]; exact hrow'⟩ (by simp; omega) (by simp [subk, Eng.look]) (List.Sublist.refl _) rfl (List.Sublist.refl _)
end Go.Proofs.YtoepmdbicdoieaaDoor.K

/- The document's checker: how many fields, which primitive, what is wrong first. -/
namespace Go.Proofs.YtoepmdbicdoieaaDoor.K
open Go Go.Eng Go.Proofs Go.Proofs.YtoepmdbicdoieaaDoor.T
set_option linter.unusedSimpArgs false
set_option linter.unusedVariables false
set_option maxRecDepth 100000
set_option maxHeartbeats 2000000
def arityD : List Dat → ByteArray → Option Int
  | [], _ => none
  | d :: l, s => if d.name = s then some d.arity else arityD l s
theorem arityD_at {l : List Dat} {s : ByteArray} : ∀ {i : Nat} (h : i < l.length), (∀ j, ∀ hj : j < l.length, j < i → (l[j]).name ≠ s) → (l[i]).name = s → arityD l s = some (l[i]).arity := by
  induction l with
  | nil => intro i h; exact absurd h (by simp)
  | cons d l ih =>
    intro i h h1 h2
    cases i with
    | zero => simp [arityD, show d.name = s from h2]
    | succ i =>
      have h0 := h1 0 (by simp) (by omega)
      simp only [List.getElem_cons_zero] at h0
      simp only [arityD, if_neg h0, List.getElem_cons_succ] at h2 ⊢
      exact ih (by simpa using h) (fun j hj hlt => h1 (j + 1) (by simpa using hj) (by omega)) h2
theorem arityD_none {l : List Dat} {s : ByteArray} (h : ∀ j, ∀ hj : j < l.length, (l[j]).name ≠ s) : arityD l s = none := by
  induction l with
  | nil => rfl
  | cons d l ih =>
    have h0 := h 0 (by simp)
    simp only [List.getElem_cons_zero] at h0
    simp only [arityD, if_neg h0]
    exact ih fun j hj => h (j + 1) (by simpa using hj)
abbrev arityV (o : Option Int) : Value := .tuple #[.int .i64 (o.getD 0), .bool o.isSome]
theorem arity (F : PH) (dv bv : Value) (l : List Dat) (s : ByteArray) (hd : Dats F dv l) (hone : bv.oneCell' = true) : PFn Tryd.prog 118 [.agg #[dv, bv], .string s] F (fun v _ => v = arityV (arityD l s)) := by
  have hd' := hd
  obtain ⟨pl, cl, rfl, hl1, hl2⟩ := hd.val
  refine Fn.intro (n := 28) (ts := [4, 5]) Tryd.func118 rfl rfl rfl rfl (by simp) fun B hB => VC.go 100 ?_
  simp only [push_cast, ↓reduceIte, Nat.reduceEqDiff, Nat.reduceAdd, Nat.reduceMul, Nat.reduceSub, Nat.reduceLT, Nat.reduceLeDiff, reduceCtorEq, Nat.reduceMod, Int.reduceEq, Int.reduceLT, Int.reduceLE, Int.reduceToNat, dite_true, hone]
  intro b
  refine VC.loopL (fun i : Nat => [(6, .v (.int .i64 i)), (2, .o 0 b 0), (1, .v (.string s))]) (fun i => i ≤ l.length ∧ ∀ j, ∀ hj : j < l.length, j < i → (l[j]).name ≠ s) (fun i => l.length - i) 0 ⟨Nat.zero_le _, fun _ _ h => absurd h (Nat.not_lt_zero _)⟩ (by simp [subk, Eng.look]) ?_
  intro i ⟨hi, ht⟩ G hG
  refine VC.go 100 ?_
  by_cases h : i < l.length
  case neg =>
    have h' : ¬ (i : Int) < (l.length : Int) := by omega
    simp only [push_cast, ↓reduceIte, Nat.reduceEqDiff, Nat.reduceAdd, Nat.reduceMul, Nat.reduceSub, Nat.reduceLT, Nat.reduceLeDiff, reduceCtorEq, Nat.reduceMod, Int.reduceEq, Int.reduceLT, Int.reduceLE, Int.reduceToNat, dite_true, h', hone]
    exact RetOk.p rfl (by rw [arityD_none fun j hj => ht j hj (by omega)]; rfl)
  have h' : (i : Int) < (l.length : Int) := by omega
  have h0 : (0 : Int) ≤ (i : Int) := by omega
  obtain ⟨q, _, cs, eq, _, _, kl, kr⟩ := hd'.elem (by decide) (i := i) (a := l[i]) (List.getElem?_eq_getElem h) (fun _ _ h => h.len)
  cases eq
  obtain rfl := kr
  have e2 : IntKind.i64.wrap ((i : Int) + 1) = ((i + 1 : Nat) : Int) := wadd i h (Nat.le_trans hl1 hl2)
  have k0 := cell_at kl (o := 0) rfl
  have k1 := cell_at kl (o := 1) rfl
  by_cases g : (l[i]).name = s
  · simp only [push_cast, ↓reduceIte, Nat.reduceEqDiff, Nat.reduceAdd, Nat.reduceMul, Nat.reduceSub, Nat.reduceLT, Nat.reduceLeDiff, reduceCtorEq, Nat.reduceMod, Int.reduceEq, Int.reduceLT, Int.reduceLE, Int.reduceToNat, dite_true, h', h0, hone, k0, k1, eq_true g]
    exact RetOk.p rfl (by rw [arityD_at h ht g]; rfl)
  · simp only [push_cast, ↓reduceIte, Nat.reduceEqDiff, Nat.reduceAdd, Nat.reduceMul, Nat.reduceSub, Nat.reduceLT, Nat.reduceLeDiff, reduceCtorEq, Nat.reduceMod, Int.reduceEq, Int.reduceLT, Int.reduceLE, Int.reduceToNat, dite_true, h', h0, hone, k0, k1, g, e2]
    refine hG (i + 1) _ ⟨by omega, fun j hj hlt => ?_⟩ (by omega) (by simp [subk, Eng.look]) (by simp) rfl rfl
    by_cases e : j = i
    · subst e; exact g
    · exact ht j hj (by omega)
/-! Primitives -/
def pnames : List ByteArray := [bs [35, 97, 100, 100], bs [35, 115, 117, 98], bs [35, 109, 117, 108], bs [35, 100, 105, 118], bs [35, 114, 101, 109], bs [35, 101, 113], bs [35, 108, 116], bs [35, 101, 109, 105, 116], bs [35, 115, 101, 113], bs [35, 114, 101, 102], bs [35, 103, 101, 116], bs [35, 115, 101, 116], bs [35, 97, 114, 114], bs [35, 97, 116], bs [35, 112, 117, 116], bs [35, 108, 101, 110]]
def ptable : List (Int × ByteArray) := [(1, bs [35, 97, 100, 100]), (2, bs [35, 115, 117, 98]), (3, bs [35, 109, 117, 108]), (4, bs [35, 100, 105, 118]), (5, bs [35, 114, 101, 109]), (6, bs [35, 101, 113]), (7, bs [35, 108, 116]), (8, bs [35, 101, 109, 105, 116]), (9, bs [35, 115, 101, 113]), (10, bs [35, 114, 101, 102]), (11, bs [35, 103, 101, 116]), (12, bs [35, 115, 101, 116]), (13, bs [35, 97, 114, 114]), (14, bs [35, 97, 116]), (15, bs [35, 112, 117, 116]), (16, bs [35, 108, 101, 110])]
theorem pname_tbl (F : PH) (n : Int) (s : ByteArray) (h : (n, s) ∈ ptable) : PFn Tryd.prog 92 [.int .i64 n] F (fun v _ => v = .string s) := by
  refine Fn.intro (n := 36) (ts := [2]) Tryd.func92 rfl rfl rfl rfl (by simp) fun B hB => VC.go 200 ?_
  simp only [ptable, List.mem_cons, Prod.mk.injEq, List.not_mem_nil, or_false] at h
  rcases h with ⟨rfl, rfl⟩ | ⟨rfl, rfl⟩ | ⟨rfl, rfl⟩ | ⟨rfl, rfl⟩ | ⟨rfl, rfl⟩ | ⟨rfl, rfl⟩ | ⟨rfl, rfl⟩ | ⟨rfl, rfl⟩ | ⟨rfl, rfl⟩ | ⟨rfl, rfl⟩ | ⟨rfl, rfl⟩ | ⟨rfl, rfl⟩ | ⟨rfl, rfl⟩ | ⟨rfl, rfl⟩ | ⟨rfl, rfl⟩ | ⟨rfl, rfl⟩
  all_goals
    simp only [push_cast, ↓reduceIte, Nat.reduceEqDiff, Nat.reduceAdd, Nat.reduceMul, Nat.reduceSub, Nat.reduceLT, Nat.reduceLeDiff, reduceCtorEq, Nat.reduceMod, Int.reduceEq, Int.reduceLT, Int.reduceLE, Int.reduceToNat, dite_true]
    exact RetOk.p rfl rfl
theorem pname (F : PH) (k : Nat) (h : k < pnames.length) : PFn Tryd.prog 92 [.int .i64 ((k : Int) + 1)] F (fun v _ => v = .string pnames[k]) := by
  have hk : k < 16 := h
  match k, hk with
  | 0, _ => exact pname_tbl F 1 _ (by simp [ptable, pnames])
  | 1, _ => exact pname_tbl F 2 _ (by simp [ptable, pnames])
  | 2, _ => exact pname_tbl F 3 _ (by simp [ptable, pnames])
  | 3, _ => exact pname_tbl F 4 _ (by simp [ptable, pnames])
  | 4, _ => exact pname_tbl F 5 _ (by simp [ptable, pnames])
  | 5, _ => exact pname_tbl F 6 _ (by simp [ptable, pnames])
  | 6, _ => exact pname_tbl F 7 _ (by simp [ptable, pnames])
  | 7, _ => exact pname_tbl F 8 _ (by simp [ptable, pnames])
  | 8, _ => exact pname_tbl F 9 _ (by simp [ptable, pnames])
  | 9, _ => exact pname_tbl F 10 _ (by simp [ptable, pnames])
  | 10, _ => exact pname_tbl F 11 _ (by simp [ptable, pnames])
  | 11, _ => exact pname_tbl F 12 _ (by simp [ptable, pnames])
  | 12, _ => exact pname_tbl F 13 _ (by simp [ptable, pnames])
  | 13, _ => exact pname_tbl F 14 _ (by simp [ptable, pnames])
  | 14, _ => exact pname_tbl F 15 _ (by simp [ptable, pnames])
  | 15, _ => exact pname_tbl F 16 _ (by simp [ptable, pnames])
  | k + 16, h => exact absurd h (by omega)
def findP (s : ByteArray) : Int := match pnames.findIdx? (fun p => decide (p = s)) with
  | some i => i + 1
  | none => 0
theorem find (F : PH) (s : ByteArray) : PFn Tryd.prog 53 [.string s] F (fun v _ => v = .int .i64 (findP s)) := by
  refine Fn.intro (n := 13) (ts := [2]) Tryd.func53 rfl rfl rfl rfl (by simp) fun B hB => VC.go 100 ?_
  simp only [push_cast, ↓reduceIte, Nat.reduceEqDiff, Nat.reduceAdd, Nat.reduceMul, Nat.reduceSub, Nat.reduceLT, Nat.reduceLeDiff, reduceCtorEq, Nat.reduceMod, Int.reduceEq, Int.reduceLT, Int.reduceLE, Int.reduceToNat, dite_true]
  refine VC.loopF (ι := Nat × PH) (fun i => [(3, .v (.int .i64 ((i.1 : Int) + 1))), (0, .v (.string s))]) (fun i => i.2) (fun i => i.1 ≤ 16 ∧ F.le i.2 ∧ ∀ j, ∀ h : j < pnames.length, j < i.1 → pnames[j] ≠ s) (fun i => 16 - i.1) (0, F) ⟨Nat.zero_le _, PH.le_refl _, fun _ _ h => absurd h (Nat.not_lt_zero _)⟩ (by simp [subk, Eng.look]) rfl ?_
  rintro ⟨i, F1⟩ ⟨hi, hF1, ht⟩ G hG
  dsimp only at hi hF1 ht hG ⊢
  refine VC.go 100 ?_
  by_cases h : i < 16
  case neg =>
    have h' : ¬ (i : Int) + 1 ≤ 16 := by omega
    simp only [push_cast, ↓reduceIte, Nat.reduceEqDiff, Nat.reduceAdd, Nat.reduceMul, Nat.reduceSub, Nat.reduceLT, Nat.reduceLeDiff, reduceCtorEq, Nat.reduceMod, Int.reduceEq, Int.reduceLT, Int.reduceLE, Int.reduceToNat, dite_true, h']
    refine RetOk.p rfl ?_
    have : pnames.findIdx? (fun p => decide (p = s)) = none := by
      rw [List.findIdx?_eq_none_iff]
      intro x hx
      obtain ⟨j, hj, rfl⟩ := List.getElem_of_mem hx
      simpa using ht j hj (by have : j < 16 := hj; omega)
    simp [findP, this, rval]
  have h' : (i : Int) + 1 ≤ 16 := by omega
  have hp : i < pnames.length := h
  have e2 : IntKind.i64.wrap ((i : Int) + 1 + 1) = ((i + 1 : Nat) : Int) + 1 := by rw [IntWalk.i64_in _ (by omega)]; omega
  simp only [push_cast, ↓reduceIte, Nat.reduceEqDiff, Nat.reduceAdd, Nat.reduceMul, Nat.reduceSub, Nat.reduceLT, Nat.reduceLeDiff, reduceCtorEq, Nat.reduceMod, Int.reduceEq, Int.reduceLT, Int.reduceLE, Int.reduceToNat, dite_true, h']
  refine CallV.pure (pname F1 i hp) ?_
  rintro _ F2 hF2 rfl
  by_cases g : pnames[i] = s
  · simp only [push_cast, ↓reduceIte, Nat.reduceEqDiff, Nat.reduceAdd, Nat.reduceMul, Nat.reduceSub, Nat.reduceLT, Nat.reduceLeDiff, reduceCtorEq, Nat.reduceMod, Int.reduceEq, Int.reduceLT, Int.reduceLE, Int.reduceToNat, dite_true, eq_true g]
    refine RetOk.p rfl ?_
    have : pnames.findIdx? (fun p => decide (p = s)) = some i := by
      rw [List.findIdx?_eq_some_iff_getElem]
      exact ⟨hp, by simpa using g, fun j hj => by simpa using ht j (Nat.lt_trans hj hp) hj⟩
    simp [findP, this, rval]
  · simp only [push_cast, ↓reduceIte, Nat.reduceEqDiff, Nat.reduceAdd, Nat.reduceMul, Nat.reduceSub, Nat.reduceLT, Nat.reduceLeDiff, reduceCtorEq, Nat.reduceMod, Int.reduceEq, Int.reduceLT, Int.reduceLE, Int.reduceToNat, dite_true, g, e2]
    refine hG (i + 1, F2) _ ⟨by simp; omega, PH.le_trans hF1 hF2, fun j hj hlt => ?_⟩ (by simp; omega) (by simp [subk, Eng.look]) (List.Sublist.refl _) rfl rfl
    by_cases e : j = i
    · subst e; exact g
    · exact ht j hj (by simp at hlt; omega)
def arityP (n : Int) : Int := if n < 1 ∨ 16 < n then 0 else if n = 8 ∨ n = 10 ∨ n = 11 ∨ n = 16 then 1 else if n = 15 then 3 else 2
theorem arity8 (F : PH) (n : Int) : PFn Tryd.prog 62 [.int .i64 n] F (fun v _ => v = .int .i64 (arityP n)) := by
  refine Fn.intro (n := 28) (ts := [2]) Tryd.func62 rfl rfl rfl rfl (by simp) fun B hB => VC.go 100 ?_
  by_cases g1 : n < 1
  · simp only [push_cast, ↓reduceIte, Nat.reduceEqDiff, Nat.reduceAdd, Nat.reduceMul, Nat.reduceSub, Nat.reduceLT, Nat.reduceLeDiff, reduceCtorEq, Nat.reduceMod, Int.reduceEq, Int.reduceLT, Int.reduceLE, Int.reduceToNat, dite_true, g1]
    exact RetOk.p rfl (by rw [arityP, if_pos (.inl g1)]; rfl)
  by_cases g2 : 16 < n
  · simp only [push_cast, ↓reduceIte, Nat.reduceEqDiff, Nat.reduceAdd, Nat.reduceMul, Nat.reduceSub, Nat.reduceLT, Nat.reduceLeDiff, reduceCtorEq, Nat.reduceMod, Int.reduceEq, Int.reduceLT, Int.reduceLE, Int.reduceToNat, dite_true, g1, g2]
    exact RetOk.p rfl (by rw [arityP, if_pos (.inr g2)]; rfl)
  have hn : ¬ (n < 1 ∨ 16 < n) := by omega
  by_cases g3 : n = 8
  · simp only [push_cast, ↓reduceIte, Nat.reduceEqDiff, Nat.reduceAdd, Nat.reduceMul, Nat.reduceSub, Nat.reduceLT, Nat.reduceLeDiff, reduceCtorEq, Nat.reduceMod, Int.reduceEq, Int.reduceLT, Int.reduceLE, Int.reduceToNat, dite_true, g1, g2, eq_true g3]
    exact RetOk.p rfl (by rw [arityP, if_neg hn, if_pos (by omega)]; rfl)
  by_cases g4 : n = 10
  · simp only [push_cast, ↓reduceIte, Nat.reduceEqDiff, Nat.reduceAdd, Nat.reduceMul, Nat.reduceSub, Nat.reduceLT, Nat.reduceLeDiff, reduceCtorEq, Nat.reduceMod, Int.reduceEq, Int.reduceLT, Int.reduceLE, Int.reduceToNat, dite_true, g1, g2, g3, eq_true g4]
    exact RetOk.p rfl (by rw [arityP, if_neg hn, if_pos (by omega)]; rfl)
  by_cases g5 : n = 11
  · simp only [push_cast, ↓reduceIte, Nat.reduceEqDiff, Nat.reduceAdd, Nat.reduceMul, Nat.reduceSub, Nat.reduceLT, Nat.reduceLeDiff, reduceCtorEq, Nat.reduceMod, Int.reduceEq, Int.reduceLT, Int.reduceLE, Int.reduceToNat, dite_true, g1, g2, g3, g4, eq_true g5]
    exact RetOk.p rfl (by rw [arityP, if_neg hn, if_pos (by omega)]; rfl)
  by_cases g6 : n = 16
  · simp only [push_cast, ↓reduceIte, Nat.reduceEqDiff, Nat.reduceAdd, Nat.reduceMul, Nat.reduceSub, Nat.reduceLT, Nat.reduceLeDiff, reduceCtorEq, Nat.reduceMod, Int.reduceEq, Int.reduceLT, Int.reduceLE, Int.reduceToNat, dite_true, g1, g2, g3, g4, g5, eq_true g6]
    exact RetOk.p rfl (by rw [arityP, if_neg hn, if_pos (by omega)]; rfl)
  by_cases g7 : n = 15
  · simp only [push_cast, ↓reduceIte, Nat.reduceEqDiff, Nat.reduceAdd, Nat.reduceMul, Nat.reduceSub, Nat.reduceLT, Nat.reduceLeDiff, reduceCtorEq, Nat.reduceMod, Int.reduceEq, Int.reduceLT, Int.reduceLE, Int.reduceToNat, dite_true, g1, g2, g3, g4, g5, g6, eq_true g7]
    exact RetOk.p rfl (by rw [arityP, if_neg hn, if_neg (by omega), if_pos g7]; rfl)
  · simp only [push_cast, ↓reduceIte, Nat.reduceEqDiff, Nat.reduceAdd, Nat.reduceMul, Nat.reduceSub, Nat.reduceLT, Nat.reduceLeDiff, reduceCtorEq, Nat.reduceMod, Int.reduceEq, Int.reduceLT, Int.reduceLE, Int.reduceToNat, dite_true, g1, g2, g3, g4, g5, g6, g7]
    exact RetOk.p rfl (by rw [arityP, if_neg hn, if_neg (by omega), if_neg g7]; rfl)
/-! What is wrong first -/
structure Ck where
  bad : Bool
  at_ : Int
  e : Int
abbrev ckCells (vd vb : Value) (c : Ck) : List Value := [vd, vb, .bool c.bad, .int .i64 c.at_, .int .i64 c.e]
def failC (c : Ck) (a e : Int) : Ck := if c.bad = true then c else ⟨true, a, e⟩
theorem failC_bad {c : Ck} {a e : Int} (h : c.bad = true) : failC c a e = c := if_pos h
/-- What the checker's methods leave. -/
abbrev ChkFn (f : FuncId) (args : List Value) (F : PH) (b : Nat) (vd vb : Value) (c c' : Ck) : Prop :=
  OFn Tryd.prog f (.pointer (some ⟨b, 0, none⟩) :: args) F b 126 (ckCells vd vb c) (fun _ _ cs' => cs' = ckCells vd vb c')
theorem chk_ret {b : Nat} {vd vb : Value} {c' : Ck} {L : KL} {M : List Own} {F : PH} {nx : Nat} (hM : ownF M 0 = some ⟨0, b, 126, ckCells vd vb c'⟩) :
    RetOk Tryd.prog [] (fun v F' R' => ∃ cs', R' = [cell1 b 126 cs'] ∧ cs' = ckCells vd vb c') ⟨L, M, F, [], nx⟩ :=
  RetOk.own (Q := fun _ _ cs' => cs' = ckCells vd vb c') 0 rfl hM rfl
theorem fail (F : PH) (b : Nat) (vd vb : Value) (c : Ck) (a e : Int) : ChkFn 43 [.int .i64 a, .int .i64 e] F b vd vb c (failC c a e) := by
  refine OFn.intro (n := 22) (ts := []) Tryd.func43 rfl rfl rfl rfl (by simp) fun B hB => VC.go 100 ?_
  obtain ⟨bad, at_, ee⟩ := c
  cases bad
  · simp only [push_cast, ↓reduceIte, Nat.reduceEqDiff, Nat.reduceAdd, Nat.reduceMul, Nat.reduceSub, Nat.reduceLT, Nat.reduceLeDiff, reduceCtorEq, Nat.reduceMod, Int.reduceEq, Int.reduceLT, Int.reduceLE, Int.reduceToNat, dite_true]
    exact chk_ret rfl
  · simp only [push_cast, ↓reduceIte, Nat.reduceEqDiff, Nat.reduceAdd, Nat.reduceMul, Nat.reduceSub, Nat.reduceLT, Nat.reduceLeDiff, reduceCtorEq, Nat.reduceMod, Int.reduceEq, Int.reduceLT, Int.reduceLE, Int.reduceToNat, dite_true]
    exact chk_ret rfl
end Go.Proofs.YtoepmdbicdoieaaDoor.K

/- The document's checker, as a plain function; and its walk over atoms. -/
namespace Go.Proofs.YtoepmdbicdoieaaDoor.K
open Go Go.Eng Go.Proofs Go.Proofs.YtoepmdbicdoieaaDoor.T
set_option linter.unusedSimpArgs false
set_option linter.unusedVariables false
set_option maxRecDepth 100000
set_option maxHeartbeats 2000000
def whenC (p : Prop) [Decidable p] (c : Ck) (a e : Int) : Ck := if p then failC c a e else c
def stepA (a : Int) (inn : List ByteArray) (c : Ck) (x : ByteArray × Int) : Ck := whenC (¬ x.1 = ⟨#[]⟩ ∧ hasB inn x.1 = false) c a 31
def atomsC (a : Int) (inn : List ByteArray) (l : List (ByteArray × Int)) (c : Ck) : Ck := l.foldl (stepA a inn) c
theorem atomsC_snoc (a : Int) (inn : List ByteArray) (l : List (ByteArray × Int)) (x : ByteArray × Int) (c : Ck) : atomsC a inn (l ++ [x]) c = stepA a inn (atomsC a inn l c) x := by simp [atomsC, List.foldl_append]
def stepD (p : List ByteArray) (b : Bind) (c : Ck) : Ck := whenC (hasB p b.name = true) (whenC (b.name = ⟨#[]⟩) c b.at_ 31) b.at_ 30
def dupC : List ByteArray → List Bind → Ck → Ck
  | _, [], c => c
  | p, b :: l, c => dupC (p ++ [b.name]) l (stepD p b c)
theorem dupC_snoc : ∀ (l : List Bind) (p : List ByteArray) (b : Bind) (c : Ck), dupC p (l ++ [b]) c = stepD (p ++ l.map Bind.name) b (dupC p l c)
  | [], p, b, c => by simp [dupC]
  | x :: l, p, b, c => by simp [dupC, dupC_snoc l]
def lastC (p : List Alt) (a : Alt) (c : Ck) : Ck := p.foldl (fun c b => whenC (b.kind = 3) c a.at_ 35) c
def againB (p : List Alt) (a : Alt) : Bool := p.foldl (fun r b => r || (decide (a.kind = 1) && decide (b.kind = 1) && decide (a.name = b.name)) || (decide (a.kind = 2) && decide (b.kind = 2) && decide (a.n = b.n))) false
theorem lastC_snoc (p : List Alt) (b a : Alt) (c : Ck) : lastC (p ++ [b]) a c = whenC (b.kind = 3) (lastC p a c) a.at_ 35 := by simp [lastC, List.foldl_append]
theorem againB_snoc (p : List Alt) (b a : Alt) : againB (p ++ [b]) a = (againB p a || (decide (a.kind = 1) && decide (b.kind = 1) && decide (a.name = b.name)) || (decide (a.kind = 2) && decide (b.kind = 2) && decide (a.n = b.n))) := by simp [againB, List.foldl_append]
/-- What is asked of a form's arguments. -/
def argsC (a : Int) (l : List ByteArray) (c : Ck) : Ck := if 8 < l.length then failC c a 33 else if hasB l ⟨#[]⟩ = true then failC c a 31 else if twiceB [] l = true then failC c a 30 else c
/-- What is asked of an alternative, its body aside. -/
def headC (ds : List Dat) (k a : Int) (s : ByteArray) (l : List ByteArray) (c : Ck) : Ck :=
  if k = 1 then (match arityD ds s with
    | none => failC c a 32
    | some m => if ¬ m = l.length then failC c a 33 else if hasB l ⟨#[]⟩ = true then failC c a 31 else if twiceB [] l = true then failC c a 30 else c)
  else if k = 2 then c else if k = 3 then whenC (s = ⟨#[]⟩) c a 31 else failC c a 2
def altIn (k : Int) (s : ByteArray) (l inn : List ByteArray) : List ByteArray := if k = 1 then inn ++ l else if k = 3 then inn ++ [s] else inn
mutual
def expC (ds : List Dat) : Exp → List ByteArray → Ck → Ck
  | .mk k a s n ats bs es ls, inn, c => if c.bad = true then c
    else if k = 1 then atomsC a inn ats (whenC (8 < ats.length) (whenC (hasB inn s = false) c a 31) a 33)
    else if k = 2 then atomsC a inn ats (whenC (¬ (ats.length : Int) = (arityD ds s).getD 0) (whenC ((arityD ds s).isSome = false) c a 32) a 33)
    else if k = 3 then atomsC a inn ats (whenC (¬ (ats.length : Int) = arityP (findP s)) (whenC (findP s = 0) c a 34) a 33)
    else if k = 4 then c
    else if k = 5 then (if bs.length = 0 ∨ es.length = 0 then failC c a 2 else kidC ds es (inn ++ bs.map Bind.name) (bindsC ds bs (inn ++ bs.map Bind.name) (dupC [] bs c)))
    else if k = 6 then (if es.length = 0 ∨ ls.length = 0 then failC c a 2 else altsC ds [] ls inn (kidC ds es inn c))
    else failC c a 2
def formC (ds : List Dat) : Bind → List ByteArray → Ck → Ck
  | .mk s a l e, inn, c => if c.bad = true then c else expC ds e (inn ++ l) (argsC a l c)
def altC (ds : List Dat) : Alt → Bool → List ByteArray → Ck → Ck
  | .mk k a s n l e, again, inn, c => expC ds e (altIn k s l inn) (whenC (again = true) (headC ds k a s l c) a 30)
def bindsC (ds : List Dat) : List Bind → List ByteArray → Ck → Ck
  | [], _, c => c
  | b :: l, inn, c => bindsC ds l inn (formC ds b inn c)
def kidC (ds : List Dat) : List Exp → List ByteArray → Ck → Ck
  | [], _, c => c
  | e :: _, inn, c => expC ds e inn c
def altsC (ds : List Dat) : List Alt → List Alt → List ByteArray → Ck → Ck
  | _, [], _, c => c
  | p, a :: l, inn, c => altsC ds (p ++ [a]) l inn (if c.bad = true then c else altC ds a (againB p a) inn (lastC p a c))
end
def altStep (ds : List Dat) (p : List Alt) (a : Alt) (inn : List ByteArray) (c : Ck) : Ck := if c.bad = true then c else altC ds a (againB p a) inn (lastC p a c)
theorem altsC_cons (ds : List Dat) (p : List Alt) (a : Alt) (l : List Alt) (inn : List ByteArray) (c : Ck) : altsC ds p (a :: l) inn c = altsC ds (p ++ [a]) l inn (altStep ds p a inn c) := by simp only [altsC, altStep]
theorem altsC_snoc (ds : List Dat) (inn : List ByteArray) : ∀ (l p : List Alt) (a : Alt) (c : Ck), altsC ds p (l ++ [a]) inn c = altStep ds (p ++ l) a inn (altsC ds p l inn c)
  | [], p, a, c => by rw [List.nil_append, altsC_cons]; simp [altsC]
  | x :: l, p, a, c => by rw [List.cons_append, altsC_cons, altsC_cons, altsC_snoc ds inn l]; simp
theorem bindsC_snoc (ds : List Dat) (inn : List ByteArray) : ∀ (l : List Bind) (b : Bind) (c : Ck), bindsC ds (l ++ [b]) inn c = formC ds b inn (bindsC ds l inn c)
  | [], b, c => by simp [bindsC]
  | x :: l, b, c => by simp [bindsC, bindsC_snoc ds inn l]
theorem altsC_bad (ds : List Dat) (inn : List ByteArray) : ∀ (l p : List Alt) (c : Ck), c.bad = true → altsC ds p l inn c = c
  | [], p, c, h => by simp [altsC]
  | x :: l, p, c, h => by rw [altsC_cons, show altStep ds p x inn c = c from if_pos h, altsC_bad ds inn l _ c h]
theorem atomsF (F : PH) (b : Nat) (vd vb vin va w1 we w3 : Value) (c : Ck) (e : Exp) (inn : List ByteArray) (hX : ExpAt F e va w1 we w3) (hi : Strs F vin inn) (hd : vd.oneCell' = true) (hb : vb.oneCell' = true) :
    ChkFn 117 [.agg (expCells e va w1 we w3).toArray, vin] F b vd vb c (atomsC e.at_ inn e.atoms c) := by
  obtain ⟨⟨pa, ca, rfl, ha1, ha2, ha3⟩, _, _, _⟩ := hX
  refine OFn.intro (n := 36) (ts := []) Tryd.func117 rfl rfl rfl rfl (by simp) fun B hB => VC.go 100 ?_
  simp only [push_cast, ↓reduceIte, Nat.reduceEqDiff, Nat.reduceAdd, Nat.reduceMul, Nat.reduceSub, Nat.reduceLT, Nat.reduceLeDiff, reduceCtorEq, Nat.reduceMod, Int.reduceEq, Int.reduceLT, Int.reduceLE, Int.reduceToNat, dite_true]
  intro bx
  refine VC.loopM (ι := Nat × Ck × PH) (fun i => [(6, .v (.int .i64 i.1)), (4, .o 1 bx 0), (2, .v vin), (0, .o 0 b 0)]) (fun i => [⟨0, b, 126, ckCells vd vb i.2.1⟩, ⟨1, bx, 49, expCells e (.slice pa e.atoms.length ca) w1 we w3⟩]) (fun i => i.2.2) (fun i => i.1 ≤ e.atoms.length ∧ F.le i.2.2 ∧ i.2.1 = atomsC e.at_ inn (e.atoms.take i.1) c) (fun i => e.atoms.length - i.1) (0, c, F) ⟨Nat.zero_le _, PH.le_refl _, rfl⟩ (by simp [subk, Eng.look]) (List.Sublist.refl _) rfl ?_
  rintro ⟨k, c1, F1⟩ ⟨hk, hF1, hc⟩ G hG
  dsimp only at hk hF1 hc hG ⊢
  refine VC.go 100 ?_
  by_cases h : k < e.atoms.length
  case neg =>
    have h' : ¬ (k : Int) < (e.atoms.length : Int) := by omega
    rw [List.take_of_length_le (by omega)] at hc
    subst hc
    simp only [push_cast, ↓reduceIte, Nat.reduceEqDiff, Nat.reduceAdd, Nat.reduceMul, Nat.reduceSub, Nat.reduceLT, Nat.reduceLeDiff, reduceCtorEq, Nat.reduceMod, Int.reduceEq, Int.reduceLT, Int.reduceLE, Int.reduceToNat, dite_true, h', hd, hb]
    exact chk_ret rfl
  have h' : (k : Int) < (e.atoms.length : Int) := by omega
  have h0 : (0 : Int) ≤ (k : Int) := by omega
  obtain ⟨a, rfl, ha⟩ := (ha3.mono hF1).elem h (by decide)
  rw [atomVals_at _ _ h] at ha
  have ha0 := cell_at ha (o := 0) rfl
  have e2 : IntKind.i64.wrap ((k : Int) + 1) = ((k + 1 : Nat) : Int) := wadd k h (Nat.le_trans ha1 ha2)
  have ht : atomsC e.at_ inn (e.atoms.take (k + 1)) c = stepA e.at_ inn c1 e.atoms[k] := by rw [List.take_succ_eq_append_getElem h, atomsC_snoc, hc]
  by_cases g : (e.atoms[k]).1 = ⟨#[]⟩
  · simp only [push_cast, ↓reduceIte, Nat.reduceEqDiff, Nat.reduceAdd, Nat.reduceMul, Nat.reduceSub, Nat.reduceLT, Nat.reduceLeDiff, reduceCtorEq, Nat.reduceMod, Int.reduceEq, Int.reduceLT, Int.reduceLE, Int.reduceToNat, dite_true, h', h0, ha0, hd, hb, eq_true g, e2]
    refine hG (k + 1, c1, F1) _ ⟨by simp; omega, hF1, ?_⟩ (by simp; omega) (by simp [subk, Eng.look]) (List.Sublist.refl _) rfl rfl
    rw [ht]; simp [stepA, whenC, g]
  simp only [push_cast, ↓reduceIte, Nat.reduceEqDiff, Nat.reduceAdd, Nat.reduceMul, Nat.reduceSub, Nat.reduceLT, Nat.reduceLeDiff, reduceCtorEq, Nat.reduceMod, Int.reduceEq, Int.reduceLT, Int.reduceLE, Int.reduceToNat, dite_true, h', h0, ha0, hd, hb, g]
  refine CallV.pure (has F1 _ inn (e.atoms[k]).1 (hi.mono hF1)) ?_
  rintro _ F2 hF2 rfl
  cases hh : hasB inn (e.atoms[k]).1 with
  | true =>
    simp only [push_cast, ↓reduceIte, Nat.reduceEqDiff, Nat.reduceAdd, Nat.reduceMul, Nat.reduceSub, Nat.reduceLT, Nat.reduceLeDiff, reduceCtorEq, Nat.reduceMod, Int.reduceEq, Int.reduceLT, Int.reduceLE, Int.reduceToNat, dite_true, e2]
    refine hG (k + 1, c1, F2) _ ⟨by simp; omega, PH.le_trans hF1 hF2, ?_⟩ (by simp; omega) (by simp [subk, Eng.look]) (List.Sublist.refl _) rfl rfl
    rw [ht]; simp [stepA, whenC, hh]
  | false =>
    simp only [push_cast, ↓reduceIte, Nat.reduceEqDiff, Nat.reduceAdd, Nat.reduceMul, Nat.reduceSub, Nat.reduceLT, Nat.reduceLeDiff, reduceCtorEq, Nat.reduceMod, Int.reduceEq, Int.reduceLT, Int.reduceLE, Int.reduceToNat, dite_true, hd, hb]
    refine CallV.own (i := 0) rfl (fail F2 b vd vb c1 e.at_ 31) ?_
    rintro _ F3 _ hF3 rfl
    simp only [push_cast, ↓reduceIte, Nat.reduceEqDiff, Nat.reduceAdd, Nat.reduceMul, Nat.reduceSub, Nat.reduceLT, Nat.reduceLeDiff, reduceCtorEq, Nat.reduceMod, Int.reduceEq, Int.reduceLT, Int.reduceLE, Int.reduceToNat, dite_true, e2]
    refine hG (k + 1, failC c1 e.at_ 31, F3) _ ⟨by simp; omega, PH.le_trans hF1 (PH.le_trans hF2 hF3), ?_⟩ (by simp; omega) (by simp [subk, Eng.look]) (List.Sublist.refl _) rfl rfl
    rw [ht]; simp [stepA, whenC, g, hh]
end Go.Proofs.YtoepmdbicdoieaaDoor.K

/- The document's checker: its walk over forms, lets, cases, alternatives and expressions. -/
namespace Go.Proofs.YtoepmdbicdoieaaDoor.K
open Go Go.Eng Go.Proofs Go.Proofs.YtoepmdbicdoieaaDoor.T
set_option linter.unusedSimpArgs false
set_option linter.unusedVariables false
set_option maxRecDepth 100000
set_option maxHeartbeats 4000000
theorem expC_eq (ds : List Dat) (e : Exp) (inn : List ByteArray) (c : Ck) : expC ds e inn c = if c.bad = true then c
    else if e.kind = 1 then atomsC e.at_ inn e.atoms (whenC (8 < e.atoms.length) (whenC (hasB inn e.name = false) c e.at_ 31) e.at_ 33)
    else if e.kind = 2 then atomsC e.at_ inn e.atoms (whenC (¬ (e.atoms.length : Int) = (arityD ds e.name).getD 0) (whenC ((arityD ds e.name).isSome = false) c e.at_ 32) e.at_ 33)
    else if e.kind = 3 then atomsC e.at_ inn e.atoms (whenC (¬ (e.atoms.length : Int) = arityP (findP e.name)) (whenC (findP e.name = 0) c e.at_ 34) e.at_ 33)
    else if e.kind = 4 then c
    else if e.kind = 5 then (if e.binds.length = 0 ∨ e.kids.length = 0 then failC c e.at_ 2 else kidC ds e.kids (inn ++ e.binds.map Bind.name) (bindsC ds e.binds (inn ++ e.binds.map Bind.name) (dupC [] e.binds c)))
    else if e.kind = 6 then (if e.kids.length = 0 ∨ e.alts.length = 0 then failC c e.at_ 2 else altsC ds [] e.alts inn (kidC ds e.kids inn c))
    else failC c e.at_ 2 := by
  cases e; simp only [expC]; rfl
theorem formC_eq (ds : List Dat) (b : Bind) (inn : List ByteArray) (c : Ck) : formC ds b inn c = if c.bad = true then c else expC ds b.body (inn ++ b.args) (argsC b.at_ b.args c) := by
  cases b; simp only [formC]; rfl
theorem altC_eq (ds : List Dat) (a : Alt) (again : Bool) (inn : List ByteArray) (c : Ck) : altC ds a again inn c = expC ds a.body (altIn a.kind a.name a.vars inn) (whenC (again = true) (headC ds a.kind a.at_ a.name a.vars c) a.at_ 30) := by
  cases a; simp only [altC]; rfl
/-- The contract of the walk over one expression. -/
def ExpK (ds : List Dat) (e : Exp) : Prop := ∀ (F : PH) (b : Nat) (vd vb vin va w1 we wl : Value) (c : Ck) (inn : List ByteArray), ExpAt F e va w1 we wl → Strs F vin inn → Dats F vd ds → vb.oneCell' = true → inn.length + e.size ≤ 100000000 →
  ChkFn 89 [.agg (expCells e va w1 we wl).toArray, vin] F b vd vb c (expC ds e inn c)
theorem formF (ds : List Dat) (bd : Bind) (hE : ExpK ds bd.body) (F : PH) (b : Nat) (vd vb vin v va w1 we wl : Value) (c : Ck) (inn : List ByteArray) (hv : Strs F v bd.args) (hX : ExpAt F bd.body va w1 we wl) (hi : Strs F vin inn) (hd : Dats F vd ds) (hb : vb.oneCell' = true) (hs : inn.length + bd.size ≤ 100000000) :
    ChkFn 46 [.agg (.string bd.name :: .int .i64 bd.at_ :: v :: expCells bd.body va w1 we wl).toArray, vin] F b vd vb c (formC ds bd inn c) := by
  have hX' := hX
  obtain ⟨pa, ca, pb, cb, pe, ce, pl, cl, rfl, rfl, rfl, rfl⟩ := hX.slices
  have hd' := hd
  obtain ⟨pd, cd, rfl, _, _⟩ := hd.val
  have hv' := hv
  obtain ⟨pv, cv, rfl, hv1, hv2, hv3⟩ := hv
  have hbs := bsize_eq bd
  have hal := sizeS_len bd.args
  refine OFn.intro (n := 45) (ts := []) Tryd.func46 rfl rfl rfl rfl (by simp) fun B hB => ?_
  generalize hr : formC ds bd inn c = r
  rw [formC_eq] at hr
  obtain ⟨bad, at_, ee⟩ := c
  cases bad
  case true =>
    obtain rfl : r = ⟨true, at_, ee⟩ := hr.symm
    refine VC.go 100 ?_
    simp only [push_cast, ↓reduceIte, Nat.reduceEqDiff, Nat.reduceAdd, Nat.reduceMul, Nat.reduceSub, Nat.reduceLT, Nat.reduceLeDiff, reduceCtorEq, Nat.reduceMod, Int.reduceEq, Int.reduceLT, Int.reduceLE, Int.reduceToNat, dite_true, hb]
    intro bx
    exact chk_ret rfl
  simp only [Bool.false_eq_true, if_false] at hr
  refine VC.go 8 ?_
  simp only [push_cast, ↓reduceIte, Nat.reduceEqDiff, Nat.reduceAdd, Nat.reduceMul, Nat.reduceSub, Nat.reduceLT, Nat.reduceLeDiff, reduceCtorEq, Nat.reduceMod, Int.reduceEq, Int.reduceLT, Int.reduceLE, Int.reduceToNat, dite_true, hb]
  intro bx
  refine VC.cutM (ι := Ck × PH) (fun i => [(4, .o 1 bx 0), (2, .v vin), (0, .o 0 b 0)]) (fun i => [⟨0, b, 126, ckCells (.slice pd ds.length cd) vb i.1⟩, ⟨1, bx, 53, .string bd.name :: .int .i64 bd.at_ :: .slice pv bd.args.length cv :: expCells bd.body (.slice pa bd.body.atoms.length ca) (.slice pb bd.body.binds.length cb) (.slice pe bd.body.kids.length ce) (.slice pl bd.body.alts.length cl)⟩]) (fun i => i.2) (fun i => F.le i.2 ∧ i.1 = argsC bd.at_ bd.args ⟨false, at_, ee⟩) ?_ ?_
  · intro G hG
    refine VC.go 100 ?_
    by_cases h8 : 8 < bd.args.length
    · have h8' : (8 : Int) < (bd.args.length : Int) := by omega
      simp only [push_cast, ↓reduceIte, Nat.reduceEqDiff, Nat.reduceAdd, Nat.reduceMul, Nat.reduceSub, Nat.reduceLT, Nat.reduceLeDiff, reduceCtorEq, Nat.reduceMod, Int.reduceEq, Int.reduceLT, Int.reduceLE, Int.reduceToNat, dite_true, h8', hb]
      refine CallV.own (i := 0) rfl (fail F b _ vb _ bd.at_ 33) ?_
      rintro _ F2 _ hF2 rfl
      simp only [push_cast, ↓reduceIte, Nat.reduceEqDiff, Nat.reduceAdd, Nat.reduceMul, Nat.reduceSub, Nat.reduceLT, Nat.reduceLeDiff, reduceCtorEq, Nat.reduceMod, Int.reduceEq, Int.reduceLT, Int.reduceLE, Int.reduceToNat, dite_true]
      exact hG (_, F2) _ ⟨hF2, by simp only [argsC, if_pos h8]; rfl⟩ (by simp [subk, Eng.look]) (List.Sublist.refl _) rfl rfl
    have h8' : ¬ (8 : Int) < (bd.args.length : Int) := by omega
    simp only [push_cast, ↓reduceIte, Nat.reduceEqDiff, Nat.reduceAdd, Nat.reduceMul, Nat.reduceSub, Nat.reduceLT, Nat.reduceLeDiff, reduceCtorEq, Nat.reduceMod, Int.reduceEq, Int.reduceLT, Int.reduceLE, Int.reduceToNat, dite_true, h8', hb]
    refine CallV.pure (has F _ bd.args ⟨#[]⟩ hv') ?_
    rintro _ F2 hF2 rfl
    cases hh : hasB bd.args ⟨#[]⟩ with
    | true =>
      simp only [push_cast, ↓reduceIte, Nat.reduceEqDiff, Nat.reduceAdd, Nat.reduceMul, Nat.reduceSub, Nat.reduceLT, Nat.reduceLeDiff, reduceCtorEq, Nat.reduceMod, Int.reduceEq, Int.reduceLT, Int.reduceLE, Int.reduceToNat, dite_true, hb]
      refine CallV.own (i := 0) rfl (fail F2 b _ vb _ bd.at_ 31) ?_
      rintro _ F3 _ hF3 rfl
      simp only [push_cast, ↓reduceIte, Nat.reduceEqDiff, Nat.reduceAdd, Nat.reduceMul, Nat.reduceSub, Nat.reduceLT, Nat.reduceLeDiff, reduceCtorEq, Nat.reduceMod, Int.reduceEq, Int.reduceLT, Int.reduceLE, Int.reduceToNat, dite_true]
      exact hG (_, F3) _ ⟨PH.le_trans hF2 hF3, by simp only [argsC, if_neg h8, if_pos hh]; rfl⟩ (by simp [subk, Eng.look]) (List.Sublist.refl _) rfl rfl
    | false =>
      simp only [push_cast, ↓reduceIte, Nat.reduceEqDiff, Nat.reduceAdd, Nat.reduceMul, Nat.reduceSub, Nat.reduceLT, Nat.reduceLeDiff, reduceCtorEq, Nat.reduceMod, Int.reduceEq, Int.reduceLT, Int.reduceLE, Int.reduceToNat, dite_true, hb]
      refine CallV.pure (twice F2 _ bd.args (hv'.mono hF2)) ?_
      rintro _ F3 hF3 rfl
      cases ht : twiceB [] bd.args with
      | true =>
        simp only [push_cast, ↓reduceIte, Nat.reduceEqDiff, Nat.reduceAdd, Nat.reduceMul, Nat.reduceSub, Nat.reduceLT, Nat.reduceLeDiff, reduceCtorEq, Nat.reduceMod, Int.reduceEq, Int.reduceLT, Int.reduceLE, Int.reduceToNat, dite_true, hb]
        refine CallV.own (i := 0) rfl (fail F3 b _ vb _ bd.at_ 30) ?_
        rintro _ F4 _ hF4 rfl
        simp only [push_cast, ↓reduceIte, Nat.reduceEqDiff, Nat.reduceAdd, Nat.reduceMul, Nat.reduceSub, Nat.reduceLT, Nat.reduceLeDiff, reduceCtorEq, Nat.reduceMod, Int.reduceEq, Int.reduceLT, Int.reduceLE, Int.reduceToNat, dite_true]
        exact hG (_, F4) _ ⟨PH.le_trans hF2 (PH.le_trans hF3 hF4), by simp only [argsC, if_neg h8, hh, ht, Bool.false_eq_true, if_false, if_true]; rfl⟩ (by simp [subk, Eng.look]) (List.Sublist.refl _) rfl rfl
      | false =>
        simp only [push_cast, ↓reduceIte, Nat.reduceEqDiff, Nat.reduceAdd, Nat.reduceMul, Nat.reduceSub, Nat.reduceLT, Nat.reduceLeDiff, reduceCtorEq, Nat.reduceMod, Int.reduceEq, Int.reduceLT, Int.reduceLE, Int.reduceToNat, dite_true, hb]
        exact hG (⟨false, at_, ee⟩, F3) _ ⟨PH.le_trans hF2 hF3, by simp only [argsC, if_neg h8, hh, ht, Bool.false_eq_true, if_false, if_true]⟩ (by simp [subk, Eng.look]) (List.Sublist.refl _) rfl rfl
  · rintro ⟨c2, F2⟩ ⟨hF2, rfl⟩
    dsimp only at hF2 ⊢
    refine VC.draw (.q 0 (.q 1 (.q 2 (.q 3 (.q 4 (.q 5 (.q 6 (.q 7 (.e 8 (.es 9 [0, 1, 2, 3, 4, 5, 6, 7] (.done))))))))))) mixed (by rfl) ?_
    simp only [push_cast, ↓reduceIte, Nat.reduceEqDiff, Nat.reduceAdd, Nat.reduceMul, Nat.reduceSub, Nat.reduceLT, Nat.reduceLeDiff, reduceCtorEq, Nat.reduceMod, Int.reduceEq, Int.reduceLT, Int.reduceLE, Int.reduceToNat, dite_true, hb]
    refine CallV.sl (withs F2 _ _ inn bd.args (hi.mono hF2) (hv'.mono hF2) (by omega)) ?_
    intro v3 F3 m hF3 hm hv3
    simp only [push_cast, ↓reduceIte, Nat.reduceEqDiff, Nat.reduceAdd, Nat.reduceMul, Nat.reduceSub, Nat.reduceLT, Nat.reduceLeDiff, reduceCtorEq, Nat.reduceMod, Int.reduceEq, Int.reduceLT, Int.reduceLE, Int.reduceToNat, dite_true, hb]
    refine CallV.own (i := 0) rfl (hE F3 b _ vb _ _ _ _ _ (argsC bd.at_ bd.args ⟨false, at_, ee⟩) (inn ++ bd.args) (hX'.mono (PH.le_trans hF2 hF3)) (sl_strs hm hv3) (hd'.mono' (PH.le_trans hF2 hF3)) hb (by simp; omega)) ?_
    rintro _ F4 _ hF4 rfl
    simp only [push_cast, ↓reduceIte, Nat.reduceEqDiff, Nat.reduceAdd, Nat.reduceMul, Nat.reduceSub, Nat.reduceLT, Nat.reduceLeDiff, reduceCtorEq, Nat.reduceMod, Int.reduceEq, Int.reduceLT, Int.reduceLE, Int.reduceToNat, dite_true]
    refine VC.go 100 ?_
    simp only [push_cast, ↓reduceIte, Nat.reduceEqDiff, Nat.reduceAdd, Nat.reduceMul, Nat.reduceSub, Nat.reduceLT, Nat.reduceLeDiff, reduceCtorEq, Nat.reduceMod, Int.reduceEq, Int.reduceLT, Int.reduceLE, Int.reduceToNat, dite_true]
    subst hr
    exact chk_ret rfl
end Go.Proofs.YtoepmdbicdoieaaDoor.K
