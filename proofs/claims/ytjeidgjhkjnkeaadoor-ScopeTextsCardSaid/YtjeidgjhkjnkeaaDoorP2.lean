/- Package prim: which primitive a name is, and how many arguments it has; two names of a list. -/
import Derived.Test.YtjeidgjhkjnkeaaDoorP1
import Derived.Test.YtjeidgjhkjnkeaaDoorK1
namespace Go.Proofs.YtjeidgjhkjnkeaaDoor.P
open Go Go.Eng Go.Proofs Go.Proofs.YtjeidgjhkjnkeaaDoor.T Go.Proofs.YtjeidgjhkjnkeaaDoor.K
set_option linter.unusedSimpArgs false
set_option linter.unusedVariables false
set_option maxRecDepth 100000
set_option maxHeartbeats 2000000
def tnames : List ByteArray := bs [] :: pnames
def tars : List (Int × Int × Int × Int) := [(0, 0, 0, 0), (2, 2, 2, 0), (2, 2, 2, 0), (2, 2, 2, 0), (2, 2, 2, 0), (2, 2, 2, 0), (2, 2, 2, 0), (2, 2, 2, 0), (1, 2, 0, 0), (2, 1, 0, 0), (1, 0, 0, 0), (1, 3, 0, 0), (2, 3, 0, 0), (2, 2, 0, 0), (2, 4, 2, 0), (3, 4, 2, 0), (1, 4, 0, 0)]
def tname (i : Nat) : ByteArray := tnames.getD i (bs [])
def tar (i : Nat) : Int × Int × Int × Int := tars.getD i (0, 0, 0, 0)
abbrev rowC (i : Nat) : List Value := [.string (tname i), .int .i64 (tar i).1, .int .i64 (tar i).2.1, .int .i64 (tar i).2.2.1, .int .i64 (tar i).2.2.2]
/-- The table of primitives lies where it was laid. -/
def Table (F : PH) : Prop := ∀ i, i < 17 → F.cells ((⟨0, 0, none⟩ : Addr).add (i * 5)) 5 = some (rowC i)
theorem Table.mono {F G : PH} (h : Table F) (hl : F.le G) : Table G := fun i hi => hl.cells (h i hi)
abbrev zrow : List Value := [.string (bs []), .int .i64 0, .int .i64 0, .int .i64 0, .int .i64 0]
theorem row_eqs : (List.range 17).map (fun i => aggEq Tryd.prog 111 (rowC i).toArray zrow.toArray) = (List.range 17).map (fun i => some (decide (i = 0))) := by kernel_rfl
theorem row_eq (i : Nat) (h : i < 17) : aggEq Tryd.prog 111 (rowC i).toArray zrow.toArray = some (decide (i = 0)) := by
  have := congrArg (fun l => l[i]?) row_eqs
  simpa only [List.getElem?_map, List.getElem?_range h, Option.map_some, Option.some.injEq] using this
theorem tname_succ (i : Nat) (h : i < pnames.length) : tname (i + 1) = pnames[i] := by
  simp [tname, tnames, h]
theorem find (F : PH) (s : ByteArray) (hT : Table F) : PFn Tryd.prog 47 [.string s] F (fun v _ => v = .int .i64 (findP s)) := by
  refine Fn.intro (n := 22) (ts := [2]) Tryd.func47 rfl rfl rfl rfl (by simp) fun B hB => VC.go 100 ?_
  simp only [push_cast, ↓reduceIte, Nat.reduceEqDiff, Nat.reduceAdd, Nat.reduceMul, Nat.reduceSub, Nat.reduceLT, Nat.reduceLeDiff, reduceCtorEq, Nat.reduceMod, Int.reduceEq, Int.reduceLT, Int.reduceLE, Int.reduceToNat, dite_true]
  refine VC.loopL (fun i : Nat => [(4, .v (.int .i64 i)), (0, .v (.string s))]) (fun i => i ≤ 17 ∧ ∀ j, ∀ h : j < pnames.length, j + 1 < i → pnames[j] ≠ s) (fun i => 17 - i) 0 ⟨Nat.zero_le _, fun _ _ h => absurd h (by omega)⟩ (by simp [subk, Eng.look]) ?_
  intro i ⟨hi, ht⟩ G hG
  refine VC.go 100 ?_
  by_cases h : i < 17
  case neg =>
    have h' : ¬ (i : Int) < 17 := by omega
    simp only [push_cast, ↓reduceIte, Nat.reduceEqDiff, Nat.reduceAdd, Nat.reduceMul, Nat.reduceSub, Nat.reduceLT, Nat.reduceLeDiff, reduceCtorEq, Nat.reduceMod, Int.reduceEq, Int.reduceLT, Int.reduceLE, Int.reduceToNat, dite_true, h']
    refine RetOk.p rfl ?_
    have : pnames.findIdx? (fun p => decide (p = s)) = none := by
      rw [List.findIdx?_eq_none_iff]
      intro x hx
      obtain ⟨j, hj, rfl⟩ := List.getElem_of_mem hx
      simpa using ht j hj (by have : j < 16 := hj; omega)
    simp [findP, this, rval]
  have h' : (i : Int) < 17 := by omega
  have h0 : (0 : Int) ≤ (i : Int) := by omega
  have e2 : IntKind.i64.wrap ((i : Int) + 1) = ((i + 1 : Nat) : Int) := by rw [IntWalk.i64_in _ (by omega)]; simp
  have hk := hT i h
  have hk0 := cell_at hk (o := 0) rfl
  have ha := row_eq i h
  rw [show zrow.toArray = (#[.string ⟨#[]⟩, .int .i64 0, .int .i64 0, .int .i64 0, .int .i64 0] : Array Value) from rfl] at ha
  by_cases g0 : i = 0
  · rw [show decide (i = 0) = true from by simp [g0]] at ha
    simp only [push_cast, ↓reduceIte, Nat.reduceEqDiff, Nat.reduceAdd, Nat.reduceMul, Nat.reduceSub, Nat.reduceLT, Nat.reduceLeDiff, reduceCtorEq, Nat.reduceMod, Int.reduceEq, Int.reduceLT, Int.reduceLE, Int.reduceToNat, dite_true, Int.reduceAdd, h', h0, hk, hk0, ha, e2]
    exact hG (i + 1) _ ⟨by omega, fun j hj hlt => absurd hlt (by omega)⟩ (by omega) (by simp [subk, Eng.look]) (List.Sublist.refl _) rfl rfl
  rw [show decide (i = 0) = false from by simp [g0]] at ha
  have hp : i - 1 < pnames.length := by have : pnames.length = 16 := rfl; omega
  have hn : tname i = pnames[i - 1] := by
    have := tname_succ (i - 1) hp
    rw [show i - 1 + 1 = i from by omega] at this
    exact this
  by_cases g : tname i = s
  · simp only [push_cast, ↓reduceIte, Nat.reduceEqDiff, Nat.reduceAdd, Nat.reduceMul, Nat.reduceSub, Nat.reduceLT, Nat.reduceLeDiff, reduceCtorEq, Nat.reduceMod, Int.reduceEq, Int.reduceLT, Int.reduceLE, Int.reduceToNat, dite_true, Int.reduceAdd, h', h0, hk, hk0, ha, eq_true g]
    refine RetOk.p rfl ?_
    have : pnames.findIdx? (fun p => decide (p = s)) = some (i - 1) := by
      rw [List.findIdx?_eq_some_iff_getElem]
      exact ⟨hp, by simpa [← hn] using g, fun j hj => by simpa using ht j (Nat.lt_trans hj hp) (by omega)⟩
    have e3 : (((i - 1 : Nat) : Int) + 1) = (i : Int) := by omega
    simp only [findP, this, rval, e3]
    rfl
  · simp only [push_cast, ↓reduceIte, Nat.reduceEqDiff, Nat.reduceAdd, Nat.reduceMul, Nat.reduceSub, Nat.reduceLT, Nat.reduceLeDiff, reduceCtorEq, Nat.reduceMod, Int.reduceEq, Int.reduceLT, Int.reduceLE, Int.reduceToNat, dite_true, Int.reduceAdd, h', h0, hk, hk0, ha, g, e2]
    refine hG (i + 1) _ ⟨by omega, fun j hj hlt => ?_⟩ (by omega) (by simp [subk, Eng.look]) (List.Sublist.refl _) rfl rfl
    by_cases e : j = i - 1
    · subst e; rw [← hn]; exact g
    · exact ht j hj (by omega)
theorem of_ (F : PH) (n : Int) (hT : Table F) : PFn Tryd.prog 66 [.int .i64 n] F (fun v _ => ∃ s a b c, v = .agg #[.string s, .int .i64 (arityP n), a, b, c] ∧ a.oneCell' = true ∧ b.oneCell' = true ∧ c.oneCell' = true) := by
  refine Fn.intro (n := 13) (ts := [.cell 2 111]) Tryd.func66 rfl rfl rfl rfl (by simp) fun B hB => VC.go 100 ?_
  by_cases g1 : n < 1
  · simp only [push_cast, ↓reduceIte, Nat.reduceEqDiff, Nat.reduceAdd, Nat.reduceMul, Nat.reduceSub, Nat.reduceLT, Nat.reduceLeDiff, reduceCtorEq, Nat.reduceMod, Int.reduceEq, Int.reduceLT, Int.reduceLE, Int.reduceToNat, dite_true, g1]
    intro b
    refine ⟨[_], [], (by simp only [push_cast, ↓reduceIte, Nat.reduceEqDiff, Nat.reduceAdd, Nat.reduceMul, Nat.reduceSub, Nat.reduceLT, Nat.reduceLeDiff, reduceCtorEq, Nat.reduceMod, Int.reduceEq, Int.reduceLT, Int.reduceLE, Int.reduceToNat, dite_true, rvals, rval1]; rfl), .sub (List.nil_sublist _), rfl, ?_⟩
    exact ⟨_, _, _, _, by rw [arityP, if_pos (.inl g1)]; rfl, rfl, rfl, rfl⟩
  by_cases g2 : 17 ≤ n
  · simp only [push_cast, ↓reduceIte, Nat.reduceEqDiff, Nat.reduceAdd, Nat.reduceMul, Nat.reduceSub, Nat.reduceLT, Nat.reduceLeDiff, reduceCtorEq, Nat.reduceMod, Int.reduceEq, Int.reduceLT, Int.reduceLE, Int.reduceToNat, dite_true, g1, g2]
    intro b
    refine ⟨[_], [], (by simp only [push_cast, ↓reduceIte, Nat.reduceEqDiff, Nat.reduceAdd, Nat.reduceMul, Nat.reduceSub, Nat.reduceLT, Nat.reduceLeDiff, reduceCtorEq, Nat.reduceMod, Int.reduceEq, Int.reduceLT, Int.reduceLE, Int.reduceToNat, dite_true, rvals, rval1]; rfl), .sub (List.nil_sublist _), rfl, ?_⟩
    exact ⟨_, _, _, _, by rw [arityP, if_pos (.inr (by omega))]; rfl, rfl, rfl, rfl⟩
  · have h0 : 0 ≤ n := by omega
    have h1 : n < 17 := by omega
    have hk := hT n.toNat (by omega)
    simp only [push_cast, ↓reduceIte, Nat.reduceEqDiff, Nat.reduceAdd, Nat.reduceMul, Nat.reduceSub, Nat.reduceLT, Nat.reduceLeDiff, reduceCtorEq, Nat.reduceMod, Int.reduceEq, Int.reduceLT, Int.reduceLE, Int.reduceToNat, dite_true, Int.reduceAdd, g1, g2, h0, h1, hk]
    intro b
    have ha : arityP n = (tar n.toNat).1 := by
      obtain ⟨m, rfl⟩ : ∃ m : Nat, n = m := ⟨n.toNat, by omega⟩
      have hm : m < 17 := by omega
      match m, hm with
      | 0, h => omega
      | 1, _ | 2, _ | 3, _ | 4, _ | 5, _ | 6, _ | 7, _ | 8, _ | 9, _ | 10, _ | 11, _ | 12, _ | 13, _ | 14, _ | 15, _ | 16, _ => rfl
      | m + 17, h => omega
    refine ⟨[_], [], (by simp only [push_cast, ↓reduceIte, Nat.reduceEqDiff, Nat.reduceAdd, Nat.reduceMul, Nat.reduceSub, Nat.reduceLT, Nat.reduceLeDiff, reduceCtorEq, Nat.reduceMod, Int.reduceEq, Int.reduceLT, Int.reduceLE, Int.reduceToNat, dite_true, rvals, rval1]; rfl), .sub (List.nil_sublist _), rfl, ?_⟩
    rw [ha]
    exact ⟨_, _, _, _, rfl, rfl, rfl, rfl⟩
theorem arityPrim (F : PH) (n : Int) (hT : Table F) : PFn Tryd.prog 48 [.int .i64 n] F (fun v _ => v = .int .i64 (arityP n)) := by
  refine Fn.intro (n := 6) (ts := [2]) Tryd.func48 rfl rfl rfl rfl (by simp) fun B hB => VC.go 100 ?_
  simp only [push_cast, ↓reduceIte, Nat.reduceEqDiff, Nat.reduceAdd, Nat.reduceMul, Nat.reduceSub, Nat.reduceLT, Nat.reduceLeDiff, reduceCtorEq, Nat.reduceMod, Int.reduceEq, Int.reduceLT, Int.reduceLE, Int.reduceToNat, dite_true]
  refine CallV.pure (of_ F n hT) ?_
  rintro _ F2 hF2 ⟨s, a, b, c, rfl, ha, hb, hc⟩
  simp only [push_cast, ↓reduceIte, Nat.reduceEqDiff, Nat.reduceAdd, Nat.reduceMul, Nat.reduceSub, Nat.reduceLT, Nat.reduceLeDiff, reduceCtorEq, Nat.reduceMod, Int.reduceEq, Int.reduceLT, Int.reduceLE, Int.reduceToNat, dite_true]
  exact RetOk.p rfl rfl
/-! Two of a list -/
theorem like_form (F : PH) (b : Nat) (v : Value) (l : List ByteArray) (hb : F.cell ⟨b, 0, none⟩ = some v) (hl : Strs F v l) (i k : Nat) (hi : i < l.length) (hk : k < i) :
    PFn Tryd.prog 35 [.int .i64 i, .int .i64 k, .pointer (some ⟨b, 0, none⟩)] F (fun r _ => r = .bool (decide (l.getD i (bs []) = l.getD k (bs [])))) := by
  obtain ⟨p, c, rfl, h1, h2, h3⟩ := hl
  have hkl : k < l.length := by omega
  have a1 : (i : Int) < (l.length : Int) := by omega
  have a2 : (0 : Int) ≤ (i : Int) := by omega
  have a3 : (k : Int) < (l.length : Int) := by omega
  have a4 : (0 : Int) ≤ (k : Int) := by omega
  obtain ⟨q, rfl, hq⟩ := h3.elem1 (i := i) (v := .string l[i]) (by simp [hi])
  obtain ⟨_, e, hq2⟩ := h3.elem1 (i := k) (v := .string l[k]) (by simp [hkl])
  cases e
  refine Fn.intro (n := 15) (ts := [5]) Tryd.func35 rfl rfl rfl rfl (by simp) fun B hB => VC.go 100 ?_
  simp only [push_cast, ↓reduceIte, Nat.reduceEqDiff, Nat.reduceAdd, Nat.reduceMul, Nat.reduceSub, Nat.reduceLT, Nat.reduceLeDiff, reduceCtorEq, Nat.reduceMod, Int.reduceEq, Int.reduceLT, Int.reduceLE, Int.reduceToNat, dite_true]
  refine VC.draw (.q 0 (.q 1 (.q 2 (.q 3 (.q 4 (.q 5 (.q 6 (.q 7 (.q 8 (.q 9 (.done))))))))))) mixed (by rfl) ?_
  simp only [push_cast, ↓reduceIte, Nat.reduceEqDiff, Nat.reduceAdd, Nat.reduceMul, Nat.reduceSub, Nat.reduceLT, Nat.reduceLeDiff, reduceCtorEq, Nat.reduceMod, Int.reduceEq, Int.reduceLT, Int.reduceLE, Int.reduceToNat, dite_true, hb, a1, a2, a3, a4, hq, hq2]
  refine VC.go 100 ?_
  simp only [push_cast, ↓reduceIte, Nat.reduceEqDiff, Nat.reduceAdd, Nat.reduceMul, Nat.reduceSub, Nat.reduceLT, Nat.reduceLeDiff, reduceCtorEq, Nat.reduceMod, Int.reduceEq, Int.reduceLT, Int.reduceLE, Int.reduceToNat, dite_true]
  exact RetOk.p rfl (by simp [rval, List.getD, hi, hkl])
theorem like_alt (F : PH) (b : Nat) (v : Value) (l : List ByteArray) (hb : F.cell ⟨b, 0, none⟩ = some v) (hl : Strs F v l) (i k : Nat) (hi : i < l.length) (hk : k < i) :
    PFn Tryd.prog 71 [.int .i64 i, .int .i64 k, .pointer (some ⟨b, 0, none⟩)] F (fun r _ => r = .bool (decide (l.getD i (bs []) = l.getD k (bs [])))) := by
  obtain ⟨p, c, rfl, h1, h2, h3⟩ := hl
  have hkl : k < l.length := by omega
  have a1 : (i : Int) < (l.length : Int) := by omega
  have a2 : (0 : Int) ≤ (i : Int) := by omega
  have a3 : (k : Int) < (l.length : Int) := by omega
  have a4 : (0 : Int) ≤ (k : Int) := by omega
  obtain ⟨q, rfl, hq⟩ := h3.elem1 (i := i) (v := .string l[i]) (by simp [hi])
  obtain ⟨_, e, hq2⟩ := h3.elem1 (i := k) (v := .string l[k]) (by simp [hkl])
  cases e
  refine Fn.intro (n := 15) (ts := [5]) Tryd.func71 rfl rfl rfl rfl (by simp) fun B hB => VC.go 100 ?_
  simp only [push_cast, ↓reduceIte, Nat.reduceEqDiff, Nat.reduceAdd, Nat.reduceMul, Nat.reduceSub, Nat.reduceLT, Nat.reduceLeDiff, reduceCtorEq, Nat.reduceMod, Int.reduceEq, Int.reduceLT, Int.reduceLE, Int.reduceToNat, dite_true]
  refine VC.draw (.q 0 (.q 1 (.q 2 (.q 3 (.q 4 (.q 5 (.q 6 (.q 7 (.q 8 (.q 9 (.done))))))))))) mixed (by rfl) ?_
  simp only [push_cast, ↓reduceIte, Nat.reduceEqDiff, Nat.reduceAdd, Nat.reduceMul, Nat.reduceSub, Nat.reduceLT, Nat.reduceLeDiff, reduceCtorEq, Nat.reduceMod, Int.reduceEq, Int.reduceLT, Int.reduceLE, Int.reduceToNat, dite_true, hb, a1, a2, a3, a4, hq, hq2]
  refine VC.go 100 ?_
  simp only [push_cast, ↓reduceIte, Nat.reduceEqDiff, Nat.reduceAdd, Nat.reduceMul, Nat.reduceSub, Nat.reduceLT, Nat.reduceLeDiff, reduceCtorEq, Nat.reduceMod, Int.reduceEq, Int.reduceLT, Int.reduceLE, Int.reduceToNat, dite_true]
  exact RetOk.p rfl (by simp [rval, List.getD, hi, hkl])
theorem like_let (F : PH) (b : Nat) (v : Value) (l : List Bind) (hb : F.cell ⟨b, 0, none⟩ = some v) (hl : SlE F 11 (RBind F) v l) (i k : Nat) (hi : i < l.length) (hk : k < i) :
    PFn Tryd.prog 67 [.int .i64 i, .int .i64 k, .pointer (some ⟨b, 0, none⟩)] F (fun r _ => r = .bool (decide ((l.map Bind.name).getD i (bs []) = (l.map Bind.name).getD k (bs [])))) := by
  have hkl : k < l.length := by omega
  have a1 : (i : Int) < (l.length : Int) := by omega
  have a2 : (0 : Int) ≤ (i : Int) := by omega
  have a3 : (k : Int) < (l.length : Int) := by omega
  have a4 : (0 : Int) ≤ (k : Int) := by omega
  obtain ⟨q, cp, cs, e1, _, _, kl, kr⟩ := hl.elem (by decide) (i := i) (a := l[i]) (List.getElem?_eq_getElem hi) (fun _ _ h => h.len)
  obtain ⟨q2, _, cs2, e2, _, _, kl2, kr2⟩ := hl.elem (by decide) (i := k) (a := l[k]) (List.getElem?_eq_getElem hkl) (fun _ _ h => h.len)
  subst e1
  cases e2
  obtain ⟨_, _, rfl, _, _⟩ := RBind_iff.1 kr
  obtain ⟨_, _, rfl, _, _⟩ := RBind_iff.1 kr2
  have c1 := cell_at kl (o := 0) rfl
  have c2 := cell_at kl2 (o := 0) rfl
  refine Fn.intro (n := 17) (ts := [5]) Tryd.func67 rfl rfl rfl rfl (by simp) fun B hB => VC.go 100 ?_
  simp only [push_cast, ↓reduceIte, Nat.reduceEqDiff, Nat.reduceAdd, Nat.reduceMul, Nat.reduceSub, Nat.reduceLT, Nat.reduceLeDiff, reduceCtorEq, Nat.reduceMod, Int.reduceEq, Int.reduceLT, Int.reduceLE, Int.reduceToNat, dite_true]
  refine VC.draw (.q 0 (.q 1 (.q 2 (.q 3 (.q 4 (.q 5 (.q 6 (.q 7 (.q 8 (.q 9 (.q 10 (.q 11 (.done))))))))))))) mixed (by rfl) ?_
  simp only [push_cast, ↓reduceIte, Nat.reduceEqDiff, Nat.reduceAdd, Nat.reduceMul, Nat.reduceSub, Nat.reduceLT, Nat.reduceLeDiff, reduceCtorEq, Nat.reduceMod, Int.reduceEq, Int.reduceLT, Int.reduceLE, Int.reduceToNat, dite_true, hb, a1, a2, a3, a4, c1, c2]
  refine VC.go 100 ?_
  simp only [push_cast, ↓reduceIte, Nat.reduceEqDiff, Nat.reduceAdd, Nat.reduceMul, Nat.reduceSub, Nat.reduceLT, Nat.reduceLeDiff, reduceCtorEq, Nat.reduceMod, Int.reduceEq, Int.reduceLT, Int.reduceLE, Int.reduceToNat, dite_true]
  exact RetOk.p rfl (by simp [rval, List.getD, hi, hkl])
/-- Has a list of names one twice? -/
theorem dupAt_twice {l : List ByteArray} {i : Nat} (h : dupAt (fun i k => decide (l.getD i (bs []) = l.getD k (bs []))) l.length i) : i ≤ l.length ∧ (i < l.length ↔ twiceB [] l = true) ∧ ∀ j, ∀ hj : j < l.length, hasB (l.take j) l[j] = true → i ≤ j ∧ (i < l.length → hasB (l.take i) (l.getD i (bs [])) = true) := by
  have key : ∀ j, ∀ hj : j < l.length, (hasB (l.take j) l[j] = true ↔ ∃ k, k < j ∧ decide (l.getD j (bs []) = l.getD k (bs [])) = true) := fun j hj => by
    rw [hasB_iff]
    constructor
    · intro hm
      obtain ⟨k, hk, e⟩ := List.getElem_of_mem hm
      have hk' : k < j := by simp at hk; omega
      have hkl : k < l.length := by omega
      refine ⟨k, hk', ?_⟩
      simp only [List.getElem_take] at e
      simp [List.getD, hj, hkl, e]
    · rintro ⟨k, hk, e⟩
      have hkl : k < l.length := by omega
      simp [List.getD, hj, hkl] at e
      rw [e]
      exact List.mem_take_iff_getElem.2 ⟨k, by omega, rfl⟩
  rcases h with ⟨h1, h2, h3⟩ | ⟨rfl, h3⟩
  · refine ⟨by omega, ⟨fun _ => (twiceB_take l []).2 ⟨i, h1, by simpa using (key i h1).2 h2⟩, fun _ => h1⟩, fun j hj hm => ⟨?_, fun _ => ?_⟩⟩
    · rcases Nat.lt_or_ge j i with hlt | hge
      · obtain ⟨k, hk, e⟩ := (key j hj).1 hm
        have := h3 j hlt k hk
        dsimp only at this
        rw [e] at this; cases this
      · exact hge
    · have := (key i h1).2 h2
      simpa [List.getD, h1] using this
  · refine ⟨Nat.le_refl _, ⟨fun h => absurd h (Nat.lt_irrefl _), fun ht => ?_⟩, fun j hj hm => ?_⟩
    · obtain ⟨j, hj, hm⟩ := (twiceB_take l []).1 ht
      obtain ⟨k, hk, e⟩ := (key j hj).1 (by simpa using hm)
      have := h3 j hj k hk
      dsimp only at this
      rw [e] at this; cases this
    · obtain ⟨k, hk, e⟩ := (key j hj).1 hm
      have := h3 j hj k hk
      dsimp only at this
      rw [e] at this; cases this
end Go.Proofs.YtjeidgjhkjnkeaaDoor.P
