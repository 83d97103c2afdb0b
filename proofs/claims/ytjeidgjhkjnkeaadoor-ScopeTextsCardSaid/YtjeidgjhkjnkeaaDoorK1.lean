/- The document's checker: how many fields, which primitive, what is wrong first. -/
import Derived.Test.YtjeidgjhkjnkeaaDoorK0
namespace Go.Proofs.YtjeidgjhkjnkeaaDoor.K
open Go Go.Eng Go.Proofs Go.Proofs.YtjeidgjhkjnkeaaDoor.T
set_option linter.unusedSimpArgs false
set_option linter.unusedVariables false
set_option maxRecDepth 100000
set_option maxHeartbeats 2000000
def arityD : List Dat → ByteArray → Option Int
  | [], _ => none
  | d :: l, s => if d.name = s then some d.arity else arityD l s
theorem arityD_at {l : List Dat} {s : ByteArray} : ∀ {i : Nat} (h : i < l.length), (∀ j, ∀ hj : j < l.length, j < i → (l[j]).name ≠ s) → (l[i]).name = s → arityD l s = some (l[i]).arity := by
  induction l with
  | nil => intro i h; exact absurd h (by simp)
  | cons d l ih =>
    intro i h h1 h2
    cases i with
    | zero => simp [arityD, show d.name = s from h2]
    | succ i =>
      have h0 := h1 0 (by simp) (by omega)
      simp only [List.getElem_cons_zero] at h0
      simp only [arityD, if_neg h0, List.getElem_cons_succ] at h2 ⊢
      exact ih (by simpa using h) (fun j hj hlt => h1 (j + 1) (by simpa using hj) (by omega)) h2
theorem arityD_none {l : List Dat} {s : ByteArray} (h : ∀ j, ∀ hj : j < l.length, (l[j]).name ≠ s) : arityD l s = none := by
  induction l with
  | nil => rfl
  | cons d l ih =>
    have h0 := h 0 (by simp)
    simp only [List.getElem_cons_zero] at h0
    simp only [arityD, if_neg h0]
    exact ih fun j hj => h (j + 1) (by simpa using hj)
abbrev arityV (o : Option Int) : Value := .tuple #[.int .i64 (o.getD 0), .bool o.isSome]
theorem arity (F : PH) (dv bv : Value) (l : List Dat) (s : ByteArray) (hd : Dats F dv l) (hone : bv.oneCell' = true) : PFn Tryd.prog 15 [.agg #[dv, bv], .string s] F (fun v _ => v = arityV (arityD l s)) := by
  have hd' := hd
  obtain ⟨pl, cl, rfl, hl1, hl2⟩ := hd.val
  refine Fn.intro (n := 28) (ts := [4, 5]) Tryd.func15 rfl rfl rfl rfl (by simp) fun B hB => VC.go 100 ?_
  simp only [push_cast, ↓reduceIte, Nat.reduceEqDiff, Nat.reduceAdd, Nat.reduceMul, Nat.reduceSub, Nat.reduceLT, Nat.reduceLeDiff, reduceCtorEq, Nat.reduceMod, Int.reduceEq, Int.reduceLT, Int.reduceLE, Int.reduceToNat, dite_true, hone]
  intro b
  refine VC.loopL (fun i : Nat => [(6, .v (.int .i64 i)), (2, .o 0 b 0), (1, .v (.string s))]) (fun i => i ≤ l.length ∧ ∀ j, ∀ hj : j < l.length, j < i → (l[j]).name ≠ s) (fun i => l.length - i) 0 ⟨Nat.zero_le _, fun _ _ h => absurd h (Nat.not_lt_zero _)⟩ (by simp [subk, Eng.look]) ?_
  intro i ⟨hi, ht⟩ G hG
  refine VC.go 100 ?_
  by_cases h : i < l.length
  case neg =>
    have h' : ¬ (i : Int) < (l.length : Int) := by omega
    simp only [push_cast, ↓reduceIte, Nat.reduceEqDiff, Nat.reduceAdd, Nat.reduceMul, Nat.reduceSub, Nat.reduceLT, Nat.reduceLeDiff, reduceCtorEq, Nat.reduceMod, Int.reduceEq, Int.reduceLT, Int.reduceLE, Int.reduceToNat, dite_true, h', hone]
    exact RetOk.p rfl (by rw [arityD_none fun j hj => ht j hj (by omega)]; rfl)
  have h' : (i : Int) < (l.length : Int) := by omega
  have h0 : (0 : Int) ≤ (i : Int) := by omega
  obtain ⟨q, _, cs, eq, _, _, kl, kr⟩ := hd'.elem (by decide) (i := i) (a := l[i]) (List.getElem?_eq_getElem h) (fun _ _ h => h.len)
  cases eq
  obtain rfl := kr
  have e2 : IntKind.i64.wrap ((i : Int) + 1) = ((i + 1 : Nat) : Int) := wadd i h (Nat.le_trans hl1 hl2)
  have k0 := cell_at kl (o := 0) rfl
  have k1 := cell_at kl (o := 1) rfl
  by_cases g : (l[i]).name = s
  · simp only [push_cast, ↓reduceIte, Nat.reduceEqDiff, Nat.reduceAdd, Nat.reduceMul, Nat.reduceSub, Nat.reduceLT, Nat.reduceLeDiff, reduceCtorEq, Nat.reduceMod, Int.reduceEq, Int.reduceLT, Int.reduceLE, Int.reduceToNat, dite_true, h', h0, hone, k0, k1, eq_true g]
    exact RetOk.p rfl (by rw [arityD_at h ht g]; rfl)
  · simp only [push_cast, ↓reduceIte, Nat.reduceEqDiff, Nat.reduceAdd, Nat.reduceMul, Nat.reduceSub, Nat.reduceLT, Nat.reduceLeDiff, reduceCtorEq, Nat.reduceMod, Int.reduceEq, Int.reduceLT, Int.reduceLE, Int.reduceToNat, dite_true, h', h0, hone, k0, k1, g, e2]
    refine hG (i + 1) _ ⟨by omega, fun j hj hlt => ?_⟩ (by omega) (by simp [subk, Eng.look]) (by simp) rfl rfl
    by_cases e : j = i
    · subst e; exact g
    · exact ht j hj (by omega)
/-! Primitives -/
def pnames : List ByteArray := [bs [35, 97, 100, 100], bs [35, 115, 117, 98], bs [35, 109, 117, 108], bs [35, 100, 105, 118], bs [35, 114, 101, 109], bs [35, 101, 113], bs [35, 108, 116], bs [35, 101, 109, 105, 116], bs [35, 115, 101, 113], bs [35, 114, 101, 102], bs [35, 103, 101, 116], bs [35, 115, 101, 116], bs [35, 97, 114, 114], bs [35, 97, 116], bs [35, 112, 117, 116], bs [35, 108, 101, 110]]
def ptable : List (Int × ByteArray) := [(1, bs [35, 97, 100, 100]), (2, bs [35, 115, 117, 98]), (3, bs [35, 109, 117, 108]), (4, bs [35, 100, 105, 118]), (5, bs [35, 114, 101, 109]), (6, bs [35, 101, 113]), (7, bs [35, 108, 116]), (8, bs [35, 101, 109, 105, 116]), (9, bs [35, 115, 101, 113]), (10, bs [35, 114, 101, 102]), (11, bs [35, 103, 101, 116]), (12, bs [35, 115, 101, 116]), (13, bs [35, 97, 114, 114]), (14, bs [35, 97, 116]), (15, bs [35, 112, 117, 116]), (16, bs [35, 108, 101, 110])]
theorem pname_tbl (F : PH) (n : Int) (s : ByteArray) (h : (n, s) ∈ ptable) : PFn Tryd.prog 69 [.int .i64 n] F (fun v _ => v = .string s) := by
  refine Fn.intro (n := 36) (ts := [2]) Tryd.func69 rfl rfl rfl rfl (by simp) fun B hB => VC.go 200 ?_
  simp only [ptable, List.mem_cons, Prod.mk.injEq, List.not_mem_nil, or_false] at h
  rcases h with ⟨rfl, rfl⟩ | ⟨rfl, rfl⟩ | ⟨rfl, rfl⟩ | ⟨rfl, rfl⟩ | ⟨rfl, rfl⟩ | ⟨rfl, rfl⟩ | ⟨rfl, rfl⟩ | ⟨rfl, rfl⟩ | ⟨rfl, rfl⟩ | ⟨rfl, rfl⟩ | ⟨rfl, rfl⟩ | ⟨rfl, rfl⟩ | ⟨rfl, rfl⟩ | ⟨rfl, rfl⟩ | ⟨rfl, rfl⟩ | ⟨rfl, rfl⟩
  all_goals
    simp only [push_cast, ↓reduceIte, Nat.reduceEqDiff, Nat.reduceAdd, Nat.reduceMul, Nat.reduceSub, Nat.reduceLT, Nat.reduceLeDiff, reduceCtorEq, Nat.reduceMod, Int.reduceEq, Int.reduceLT, Int.reduceLE, Int.reduceToNat, dite_true]
    exact RetOk.p rfl rfl
theorem pname (F : PH) (k : Nat) (h : k < pnames.length) : PFn Tryd.prog 69 [.int .i64 ((k : Int) + 1)] F (fun v _ => v = .string pnames[k]) := by
  have hk : k < 16 := h
  match k, hk with
  | 0, _ => exact pname_tbl F 1 _ (by simp [ptable, pnames])
  | 1, _ => exact pname_tbl F 2 _ (by simp [ptable, pnames])
  | 2, _ => exact pname_tbl F 3 _ (by simp [ptable, pnames])
  | 3, _ => exact pname_tbl F 4 _ (by simp [ptable, pnames])
  | 4, _ => exact pname_tbl F 5 _ (by simp [ptable, pnames])
  | 5, _ => exact pname_tbl F 6 _ (by simp [ptable, pnames])
  | 6, _ => exact pname_tbl F 7 _ (by simp [ptable, pnames])
  | 7, _ => exact pname_tbl F 8 _ (by simp [ptable, pnames])
  | 8, _ => exact pname_tbl F 9 _ (by simp [ptable, pnames])
  | 9, _ => exact pname_tbl F 10 _ (by simp [ptable, pnames])
  | 10, _ => exact pname_tbl F 11 _ (by simp [ptable, pnames])
  | 11, _ => exact pname_tbl F 12 _ (by simp [ptable, pnames])
  | 12, _ => exact pname_tbl F 13 _ (by simp [ptable, pnames])
  | 13, _ => exact pname_tbl F 14 _ (by simp [ptable, pnames])
  | 14, _ => exact pname_tbl F 15 _ (by simp [ptable, pnames])
  | 15, _ => exact pname_tbl F 16 _ (by simp [ptable, pnames])
  | k + 16, h => exact absurd h (by omega)
def findP (s : ByteArray) : Int := match pnames.findIdx? (fun p => decide (p = s)) with
  | some i => i + 1
  | none => 0
theorem find (F : PH) (s : ByteArray) : PFn Tryd.prog 52 [.string s] F (fun v _ => v = .int .i64 (findP s)) := by
  refine Fn.intro (n := 13) (ts := [2]) Tryd.func52 rfl rfl rfl rfl (by simp) fun B hB => VC.go 100 ?_
  simp only [push_cast, ↓reduceIte, Nat.reduceEqDiff, Nat.reduceAdd, Nat.reduceMul, Nat.reduceSub, Nat.reduceLT, Nat.reduceLeDiff, reduceCtorEq, Nat.reduceMod, Int.reduceEq, Int.reduceLT, Int.reduceLE, Int.reduceToNat, dite_true]
  refine VC.loopF (ι := Nat × PH) (fun i => [(3, .v (.int .i64 ((i.1 : Int) + 1))), (0, .v (.string s))]) (fun i => i.2) (fun i => i.1 ≤ 16 ∧ F.le i.2 ∧ ∀ j, ∀ h : j < pnames.length, j < i.1 → pnames[j] ≠ s) (fun i => 16 - i.1) (0, F) ⟨Nat.zero_le _, PH.le_refl _, fun _ _ h => absurd h (Nat.not_lt_zero _)⟩ (by simp [subk, Eng.look]) rfl ?_
  rintro ⟨i, F1⟩ ⟨hi, hF1, ht⟩ G hG
  dsimp only at hi hF1 ht hG ⊢
  refine VC.go 100 ?_
  by_cases h : i < 16
  case neg =>
    have h' : ¬ (i : Int) + 1 ≤ 16 := by omega
    simp only [push_cast, ↓reduceIte, Nat.reduceEqDiff, Nat.reduceAdd, Nat.reduceMul, Nat.reduceSub, Nat.reduceLT, Nat.reduceLeDiff, reduceCtorEq, Nat.reduceMod, Int.reduceEq, Int.reduceLT, Int.reduceLE, Int.reduceToNat, dite_true, h']
    refine RetOk.p rfl ?_
    have : pnames.findIdx? (fun p => decide (p = s)) = none := by
      rw [List.findIdx?_eq_none_iff]
      intro x hx
      obtain ⟨j, hj, rfl⟩ := List.getElem_of_mem hx
      simpa using ht j hj (by have : j < 16 := hj; omega)
    simp [findP, this, rval]
  have h' : (i : Int) + 1 ≤ 16 := by omega
  have hp : i < pnames.length := h
  have e2 : IntKind.i64.wrap ((i : Int) + 1 + 1) = ((i + 1 : Nat) : Int) + 1 := by rw [IntWalk.i64_in _ (by omega)]; omega
  simp only [push_cast, ↓reduceIte, Nat.reduceEqDiff, Nat.reduceAdd, Nat.reduceMul, Nat.reduceSub, Nat.reduceLT, Nat.reduceLeDiff, reduceCtorEq, Nat.reduceMod, Int.reduceEq, Int.reduceLT, Int.reduceLE, Int.reduceToNat, dite_true, h']
  refine CallV.pure (pname F1 i hp) ?_
  rintro _ F2 hF2 rfl
  by_cases g : pnames[i] = s
  · simp only [push_cast, ↓reduceIte, Nat.reduceEqDiff, Nat.reduceAdd, Nat.reduceMul, Nat.reduceSub, Nat.reduceLT, Nat.reduceLeDiff, reduceCtorEq, Nat.reduceMod, Int.reduceEq, Int.reduceLT, Int.reduceLE, Int.reduceToNat, dite_true, eq_true g]
    refine RetOk.p rfl ?_
    have : pnames.findIdx? (fun p => decide (p = s)) = some i := by
      rw [List.findIdx?_eq_some_iff_getElem]
      exact ⟨hp, by simpa using g, fun j hj => by simpa using ht j (Nat.lt_trans hj hp) hj⟩
    simp [findP, this, rval]
  · simp only [push_cast, ↓reduceIte, Nat.reduceEqDiff, Nat.reduceAdd, Nat.reduceMul, Nat.reduceSub, Nat.reduceLT, Nat.reduceLeDiff, reduceCtorEq, Nat.reduceMod, Int.reduceEq, Int.reduceLT, Int.reduceLE, Int.reduceToNat, dite_true, g, e2]
    refine hG (i + 1, F2) _ ⟨by simp; omega, PH.le_trans hF1 hF2, fun j hj hlt => ?_⟩ (by simp; omega) (by simp [subk, Eng.look]) (List.Sublist.refl _) rfl rfl
    by_cases e : j = i
    · subst e; exact g
    · exact ht j hj (by simp at hlt; omega)
def arityP (n : Int) : Int := if n < 1 ∨ 16 < n then 0 else if n = 8 ∨ n = 10 ∨ n = 11 ∨ n = 16 then 1 else if n = 15 then 3 else 2
theorem arity8 (F : PH) (n : Int) : PFn Tryd.prog 53 [.int .i64 n] F (fun v _ => v = .int .i64 (arityP n)) := by
  refine Fn.intro (n := 28) (ts := [2]) Tryd.func53 rfl rfl rfl rfl (by simp) fun B hB => VC.go 100 ?_
  by_cases g1 : n < 1
  · simp only [push_cast, ↓reduceIte, Nat.reduceEqDiff, Nat.reduceAdd, Nat.reduceMul, Nat.reduceSub, Nat.reduceLT, Nat.reduceLeDiff, reduceCtorEq, Nat.reduceMod, Int.reduceEq, Int.reduceLT, Int.reduceLE, Int.reduceToNat, dite_true, g1]
    exact RetOk.p rfl (by rw [arityP, if_pos (.inl g1)]; rfl)
  by_cases g2 : 16 < n
  · simp only [push_cast, ↓reduceIte, Nat.reduceEqDiff, Nat.reduceAdd, Nat.reduceMul, Nat.reduceSub, Nat.reduceLT, Nat.reduceLeDiff, reduceCtorEq, Nat.reduceMod, Int.reduceEq, Int.reduceLT, Int.reduceLE, Int.reduceToNat, dite_true, g1, g2]
    exact RetOk.p rfl (by rw [arityP, if_pos (.inr g2)]; rfl)
  have hn : ¬ (n < 1 ∨ 16 < n) := by omega
  by_cases g3 : n = 8
  · simp only [push_cast, ↓reduceIte, Nat.reduceEqDiff, Nat.reduceAdd, Nat.reduceMul, Nat.reduceSub, Nat.reduceLT, Nat.reduceLeDiff, reduceCtorEq, Nat.reduceMod, Int.reduceEq, Int.reduceLT, Int.reduceLE, Int.reduceToNat, dite_true, g1, g2, eq_true g3]
    exact RetOk.p rfl (by rw [arityP, if_neg hn, if_pos (by omega)]; rfl)
  by_cases g4 : n = 10
  · simp only [push_cast, ↓reduceIte, Nat.reduceEqDiff, Nat.reduceAdd, Nat.reduceMul, Nat.reduceSub, Nat.reduceLT, Nat.reduceLeDiff, reduceCtorEq, Nat.reduceMod, Int.reduceEq, Int.reduceLT, Int.reduceLE, Int.reduceToNat, dite_true, g1, g2, g3, eq_true g4]
    exact RetOk.p rfl (by rw [arityP, if_neg hn, if_pos (by omega)]; rfl)
  by_cases g5 : n = 11
  · simp only [push_cast, ↓reduceIte, Nat.reduceEqDiff, Nat.reduceAdd, Nat.reduceMul, Nat.reduceSub, Nat.reduceLT, Nat.reduceLeDiff, reduceCtorEq, Nat.reduceMod, Int.reduceEq, Int.reduceLT, Int.reduceLE, Int.reduceToNat, dite_true, g1, g2, g3, g4, eq_true g5]
    exact RetOk.p rfl (by rw [arityP, if_neg hn, if_pos (by omega)]; rfl)
  by_cases g6 : n = 16
  · simp only [push_cast, ↓reduceIte, Nat.reduceEqDiff, Nat.reduceAdd, Nat.reduceMul, Nat.reduceSub, Nat.reduceLT, Nat.reduceLeDiff, reduceCtorEq, Nat.reduceMod, Int.reduceEq, Int.reduceLT, Int.reduceLE, Int.reduceToNat, dite_true, g1, g2, g3, g4, g5, eq_true g6]
    exact RetOk.p rfl (by rw [arityP, if_neg hn, if_pos (by omega)]; rfl)
  by_cases g7 : n = 15
  · simp only [push_cast, ↓reduceIte, Nat.reduceEqDiff, Nat.reduceAdd, Nat.reduceMul, Nat.reduceSub, Nat.reduceLT, Nat.reduceLeDiff, reduceCtorEq, Nat.reduceMod, Int.reduceEq, Int.reduceLT, Int.reduceLE, Int.reduceToNat, dite_true, g1, g2, g3, g4, g5, g6, eq_true g7]
    exact RetOk.p rfl (by rw [arityP, if_neg hn, if_neg (by omega), if_pos g7]; rfl)
  · simp only [push_cast, ↓reduceIte, Nat.reduceEqDiff, Nat.reduceAdd, Nat.reduceMul, Nat.reduceSub, Nat.reduceLT, Nat.reduceLeDiff, reduceCtorEq, Nat.reduceMod, Int.reduceEq, Int.reduceLT, Int.reduceLE, Int.reduceToNat, dite_true, g1, g2, g3, g4, g5, g6, g7]
    exact RetOk.p rfl (by rw [arityP, if_neg hn, if_neg (by omega), if_neg g7]; rfl)
/-! What is wrong first -/
structure Ck where
  bad : Bool
  at_ : Int
  e : Int
abbrev ckCells (vd vb : Value) (c : Ck) : List Value := [vd, vb, .bool c.bad, .int .i64 c.at_, .int .i64 c.e]
def failC (c : Ck) (a e : Int) : Ck := if c.bad = true then c else ⟨true, a, e⟩
theorem failC_bad {c : Ck} {a e : Int} (h : c.bad = true) : failC c a e = c := if_pos h
/-- What the checker's methods leave. -/
abbrev ChkFn (f : FuncId) (args : List Value) (F : PH) (b : Nat) (vd vb : Value) (c c' : Ck) : Prop :=
  OFn Tryd.prog f (.pointer (some ⟨b, 0, none⟩) :: args) F b 68 (ckCells vd vb c) (fun _ _ cs' => cs' = ckCells vd vb c')
theorem chk_ret {b : Nat} {vd vb : Value} {c' : Ck} {L : KL} {M : List Own} {F : PH} {nx : Nat} (hM : ownF M 0 = some ⟨0, b, 68, ckCells vd vb c'⟩) :
    RetOk Tryd.prog [] (fun v F' R' => ∃ cs', R' = [cell1 b 68 cs'] ∧ cs' = ckCells vd vb c') ⟨L, M, F, [], nx⟩ :=
  RetOk.own (Q := fun _ _ cs' => cs' = ckCells vd vb c') 0 rfl hM rfl
theorem fail (F : PH) (b : Nat) (vd vb : Value) (c : Ck) (a e : Int) : ChkFn 20 [.int .i64 a, .int .i64 e] F b vd vb c (failC c a e) := by
  refine OFn.intro (n := 22) (ts := []) Tryd.func20 rfl rfl rfl rfl (by simp) fun B hB => VC.go 100 ?_
  obtain ⟨bad, at_, ee⟩ := c
  cases bad
  · simp only [push_cast, ↓reduceIte, Nat.reduceEqDiff, Nat.reduceAdd, Nat.reduceMul, Nat.reduceSub, Nat.reduceLT, Nat.reduceLeDiff, reduceCtorEq, Nat.reduceMod, Int.reduceEq, Int.reduceLT, Int.reduceLE, Int.reduceToNat, dite_true]
    exact chk_ret rfl
  · simp only [push_cast, ↓reduceIte, Nat.reduceEqDiff, Nat.reduceAdd, Nat.reduceMul, Nat.reduceSub, Nat.reduceLT, Nat.reduceLeDiff, reduceCtorEq, Nat.reduceMod, Int.reduceEq, Int.reduceLT, Int.reduceLE, Int.reduceToNat, dite_true]
    exact chk_ret rfl
end Go.Proofs.YtjeidgjhkjnkeaaDoor.K
