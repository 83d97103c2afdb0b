/- The free names of expressions and what is laid for a form: both answers (the texts V0-V3, C1, C2, in one). -/
import Derived.Test.YtoepmdbicdoieaaDoorKA
import Derived.Test.YtoepmdbicdoieaaDoorTy
import Derived.Test.YtoepmdbicdoieaaDoorXA
import Derived.IntWalk
namespace Go.Proofs.YtoepmdbicdoieaaDoor.V
open Go Go.Eng Go.Proofs Go.Proofs.YtoepmdbicdoieaaDoor.T Go.Proofs.YtoepmdbicdoieaaDoor.K
set_option linter.unusedSimpArgs false
set_option linter.unusedVariables false
set_option maxRecDepth 100000
theorem w64 (n : Int) (h : -9223372036854775808 ≤ n ∧ n ≤ 9223372036854775807) : IntKind.i64.wrap n = n := IntWalk.i64_in n h
theorem less1 (n s : ByteArray) (b : Nat) (F : PH) (hb : F.cell ⟨b, 0, none⟩ = some (.string s)) : PFn Tryd.prog 136 [.string n, .pointer (some ⟨b, 0, none⟩)] F (fun v _ => v = .bool (decide (n = s))) := by
  refine Fn.intro (n := 7) (ts := [3]) Tryd.func136 rfl rfl rfl rfl (by simp) fun B hB => VC.go 100 ?_
  simp only [push_cast, ↓reduceIte, Nat.reduceEqDiff, Nat.reduceAdd, Nat.reduceMul, Nat.reduceSub, Nat.reduceLT, Nat.reduceLeDiff, reduceCtorEq, Nat.reduceMod, Int.reduceEq, Int.reduceLT, Int.reduceLE, Int.reduceToNat, dite_true, hb]
  exact RetOk.p rfl rfl

theorem wrap_add (k : Nat) {c : Nat} (h : k < c) (hc : c ≤ maxLen) : IntKind.i64.wrap ((k : Int) + 1) = ((k + 1 : Nat) : Int) := by
  unfold maxLen at hc
  rw [IntWalk.i64_in _ (by omega)]
  simp


theorem some_spec (F : PH) (v : Value) (l : List ByteArray) (g : FuncId) (first cap : Array Value) (p : ByteArray → Bool) (hv : Strs F v l)
    (hg : ∀ s ∈ l, ∀ F', F.le F' → PFn Tryd.prog g (first.toList ++ [.string s] ++ cap.toList) F' (fun v _ => v = .bool (p s))) :
    PFn Tryd.prog 135 [v, .func (.func g) first cap] F (fun v _ => v = .bool (l.any p)) := by
  obtain ⟨q, c, rfl, hc1, hc2, hsrc⟩ := hv
  refine Fn.intro (n := 17) (ts := [4]) Tryd.func135 rfl rfl rfl rfl (by simp) fun B hB => VC.go 100 ?_
  simp only [push_cast, ↓reduceIte, Nat.reduceEqDiff, Nat.reduceAdd, Nat.reduceMul, Nat.reduceSub, Nat.reduceLT, Nat.reduceLeDiff, reduceCtorEq, Nat.reduceMod, Int.reduceEq, Int.reduceLT, Int.reduceLE, Int.reduceToNat, dite_true]
  refine VC.loop (ι := Nat × PH) (fun i => ⟨[(9, .v (.int .i64 i.1)), (8, .v (.int .i64 l.length)), (7, .v (.slice q l.length c)), (1, .v (.func (.func g) first cap))], [], i.2, [], 0⟩) (fun i => i.1 ≤ l.length ∧ F.le i.2 ∧ ∀ s ∈ l.take i.1, p s = false) (fun i => l.length - i.1) (0, F) ⟨by simp, PH.le_refl _, by simp⟩ ⟨subk_le (by simp [subk, Eng.look]), List.Sublist.refl _, rfl, List.Sublist.refl _⟩ ?_
  rintro ⟨k, F1⟩ ⟨hk, hF1, hno⟩ G hG
  refine VC.go 100 ?_
  simp only [push_cast, ↓reduceIte, Nat.reduceEqDiff, Nat.reduceAdd, Nat.reduceMul, Nat.reduceSub, Nat.reduceLT, Nat.reduceLeDiff, reduceCtorEq, Nat.reduceMod, Int.reduceEq, Int.reduceLT, Int.reduceLE, Int.reduceToNat, dite_true]
  refine cnd_mk (fun h => ?_) (fun h => ?_)
  · have hlt : k < l.length := by simpa using h
    obtain ⟨a, rfl, ha⟩ := (hsrc.mono hF1).elem1 (i := k) (v := .string l[k]) (by simp [hlt])
    simp only [push_cast, ↓reduceIte, Nat.reduceEqDiff, Nat.reduceAdd, Nat.reduceMul, Nat.reduceSub, Nat.reduceLT, Nat.reduceLeDiff, reduceCtorEq, Nat.reduceMod, Int.reduceEq, Int.reduceLT, Int.reduceLE, Int.reduceToNat, dite_true, hlt, ha]
    refine CallV.pure (hg l[k] (by simp) F1 hF1) ?_
    rintro _ F2 hF2 rfl
    simp only [push_cast, ↓reduceIte, Nat.reduceEqDiff, Nat.reduceAdd, Nat.reduceMul, Nat.reduceSub, Nat.reduceLT, Nat.reduceLeDiff, reduceCtorEq, Nat.reduceMod, Int.reduceEq, Int.reduceLT, Int.reduceLE, Int.reduceToNat, dite_true]
    refine cnd_mk (fun hp => ?_) (fun hp => ?_)
    · simp only [push_cast, ↓reduceIte, Nat.reduceEqDiff, Nat.reduceAdd, Nat.reduceMul, Nat.reduceSub, Nat.reduceLT, Nat.reduceLeDiff, reduceCtorEq, Nat.reduceMod, Int.reduceEq, Int.reduceLT, Int.reduceLE, Int.reduceToNat, dite_true]
      exact RetOk.p rfl (by
        have : l.any p = true := List.any_eq_true.2 ⟨l[k], by simp, hp⟩
        rw [this]; rfl)
    · simp only [push_cast, ↓reduceIte, Nat.reduceEqDiff, Nat.reduceAdd, Nat.reduceMul, Nat.reduceSub, Nat.reduceLT, Nat.reduceLeDiff, reduceCtorEq, Nat.reduceMod, Int.reduceEq, Int.reduceLT, Int.reduceLE, Int.reduceToNat, dite_true]
      rw [wrap_add k hlt (by omega)]
      refine hG (k + 1, F2) _ ⟨hlt, PH.le_trans hF1 hF2, fun s hs => ?_⟩ (by simp; omega) ⟨subk_le (by simp [subk, Eng.look]), List.Sublist.refl _, rfl, List.Sublist.refl _⟩
      rw [List.take_succ_eq_append_getElem hlt] at hs
      rcases List.mem_append.1 hs with hs | hs
      · exact hno s hs
      · obtain rfl := List.mem_singleton.1 hs
        exact hp
  · have hge : ¬ k < l.length := by simpa using h
    simp only [push_cast, ↓reduceIte, Nat.reduceEqDiff, Nat.reduceAdd, Nat.reduceMul, Nat.reduceSub, Nat.reduceLT, Nat.reduceLeDiff, reduceCtorEq, Nat.reduceMod, Int.reduceEq, Int.reduceLT, Int.reduceLE, Int.reduceToNat, dite_true]
    refine RetOk.p rfl (by
      have : l.any p = false := by
        rw [List.any_eq_false]
        intro s hs
        simp [hno s (by rw [List.take_of_length_le (by simpa using hge)]; exact hs)]
      rw [this]; rfl)
def plainB (e : Exp) : Bool := decide (e.kind = 1) && decide ((e.atoms.length : Int) = 0)
theorem plain (F : PH) (e : Exp) (va vb ve vl : Value) (h : ExpAt F e va vb ve vl) : PFn Tryd.prog 125 [.agg (expCells e va vb ve vl).toArray] F (fun v _ => v = .bool (plainB e)) := by
  obtain ⟨⟨p, c, rfl, h1, h2, h3⟩, _, _, _⟩ := h
  refine Fn.intro (n := 12) (ts := [2]) Tryd.func125 rfl rfl rfl rfl (by simp) fun B hB => VC.go 100 ?_
  by_cases hk : e.kind = 1
  · simp only [push_cast, ↓reduceIte, Nat.reduceEqDiff, Nat.reduceAdd, Nat.reduceMul, Nat.reduceSub, Nat.reduceLT, Nat.reduceLeDiff, reduceCtorEq, Nat.reduceMod, Int.reduceEq, Int.reduceLT, Int.reduceLE, Int.reduceToNat, dite_true, hk]; intro b; exact RetOk.p rfl (by simp [plainB, hk, rval])
  · simp only [push_cast, ↓reduceIte, Nat.reduceEqDiff, Nat.reduceAdd, Nat.reduceMul, Nat.reduceSub, Nat.reduceLT, Nat.reduceLeDiff, reduceCtorEq, Nat.reduceMod, Int.reduceEq, Int.reduceLT, Int.reduceLE, Int.reduceToNat, dite_true, hk]; intro b; exact RetOk.p rfl (by simp [plainB, hk, rval])
/-- The last of the first n that is this text. -/
def lastAt (l : List ByteArray) (s : ByteArray) : Nat → Int
  | 0 => -1
  | n + 1 => if l[n]? = some s then (n : Int) else lastAt l s n
def picks (args : List ByteArray) (x : Exp) (k : Exp) (a : Alt) : Prop := args.length = 0 ∧ x.kind = 6 ∧ plainB k = true ∧ a.kind = 1 ∧ plainB a.body = true
instance (args : List ByteArray) (x : Exp) (k : Exp) (a : Alt) : Decidable (picks args x k a) := by unfold picks; exact inferInstance
abbrev fld0 : ByteArray × Int × ByteArray × Bool := (⟨#[]⟩, 0, ⟨#[]⟩, false)
def fieldOf (args : List ByteArray) (x : Exp) : ByteArray × Int × ByteArray × Bool :=
  match x.kids, x.alts with
  | k :: _, [a] => if picks args x k a ∧ 0 ≤ lastAt a.vars a.body.name a.vars.length then (a.name, lastAt a.vars a.body.name a.vars.length, k.name, true) else fld0
  | _, _ => fld0
abbrev four (r : ByteArray × Int × ByteArray × Bool) : Value := .tuple #[.string r.1, .int .i64 r.2.1, .string r.2.2.1, .bool r.2.2.2]
theorem fieldOf_no {args : List ByteArray} {x : Exp} (h : args.length ≠ 0 ∨ x.kind ≠ 6 ∨ x.kids.length = 0 ∨ x.alts.length ≠ 1) : fieldOf args x = fld0 := by
  unfold fieldOf
  split
  · rename_i k ks a e1 e2
    rw [if_neg]
    rintro ⟨⟨p1, p2, _⟩, _⟩
    rw [e1, e2] at h
    simp_all
  · rfl
theorem field (F : PH) (f : List ByteArray × Exp) (v va vb ve vl : Value) (hv : Strs F v f.1) (h : ExpAt F f.2 va vb ve vl) : PFn Tryd.prog 111 [.agg (v :: expCells f.2 va vb ve vl).toArray] F (fun v _ => v = four (fieldOf f.1 f.2)) := by
  have hX := h
  obtain ⟨⟨p1, c1, rfl, h11, h12, h13⟩, hb, hk, hl⟩ := h
  obtain ⟨pb, cb, rfl, hb1, hb2⟩ := hb.val
  obtain ⟨pk, ck, rfl, hk1, hk2⟩ := hk.val
  obtain ⟨pl, cl, rfl, hl1, hl2⟩ := hl.val
  obtain ⟨pv, cv, rfl, hv1, hv2, hv3⟩ := hv
  refine Fn.intro (n := 78) (ts := [2, 3, 4, 5]) Tryd.func111 rfl rfl rfl rfl (by simp) fun B hB => VC.go 100 ?_
  by_cases g1 : 0 < (f.1.length : Int)
  · simp only [push_cast, ↓reduceIte, Nat.reduceEqDiff, Nat.reduceAdd, Nat.reduceMul, Nat.reduceSub, Nat.reduceLT, Nat.reduceLeDiff, reduceCtorEq, Nat.reduceMod, Int.reduceEq, Int.reduceLT, Int.reduceLE, Int.reduceToNat, dite_true, g1]
    intro b b2
    exact RetOk.p rfl (by rw [fieldOf_no (.inl (by omega))]; rfl)
  by_cases g2 : f.2.kind = 6
  case neg =>
    simp only [push_cast, ↓reduceIte, Nat.reduceEqDiff, Nat.reduceAdd, Nat.reduceMul, Nat.reduceSub, Nat.reduceLT, Nat.reduceLeDiff, reduceCtorEq, Nat.reduceMod, Int.reduceEq, Int.reduceLT, Int.reduceLE, Int.reduceToNat, dite_true, g1, g2]
    intro b b2
    exact RetOk.p rfl (by rw [fieldOf_no (.inr (.inl g2))]; rfl)
  by_cases g3 : (f.2.kids.length : Int) = 0
  · simp only [push_cast, ↓reduceIte, Nat.reduceEqDiff, Nat.reduceAdd, Nat.reduceMul, Nat.reduceSub, Nat.reduceLT, Nat.reduceLeDiff, reduceCtorEq, Nat.reduceMod, Int.reduceEq, Int.reduceLT, Int.reduceLE, Int.reduceToNat, dite_true, g1, g2, g3]
    intro b b2
    exact RetOk.p rfl (by rw [fieldOf_no (.inr (.inr (.inl (by omega))))]; rfl)
  by_cases g4 : (f.2.alts.length : Int) = 1
  case neg =>
    simp only [push_cast, ↓reduceIte, Nat.reduceEqDiff, Nat.reduceAdd, Nat.reduceMul, Nat.reduceSub, Nat.reduceLT, Nat.reduceLeDiff, reduceCtorEq, Nat.reduceMod, Int.reduceEq, Int.reduceLT, Int.reduceLE, Int.reduceToNat, dite_true, g1, g2, g3, g4]
    intro b b2
    exact RetOk.p rfl (by rw [fieldOf_no (.inr (.inr (.inr (by omega))))]; rfl)
  obtain ⟨k, ks, ek⟩ : ∃ k ks, f.2.kids = k :: ks := by cases e : f.2.kids with | nil => rw [e] at g3; exact absurd rfl g3 | cons k ks => exact ⟨k, ks, rfl⟩
  obtain ⟨a, ea⟩ : ∃ a, f.2.alts = [a] := by
    cases e : f.2.alts with
    | nil => rw [e] at g4; exact absurd g4 (by decide)
    | cons a l => cases l with
      | nil => exact ⟨a, rfl⟩
      | cons b l => rw [e] at g4; simp at g4; omega
  obtain ⟨qk, _, kc, ek1, _, _, kl, kr⟩ := hk.elem (by decide) (i := 0) (a := k) (by rw [ek]; rfl) (fun _ _ h => h.len)
  cases ek1
  obtain ⟨ka, kb, ke, kll, rfl, kx⟩ := RExp_iff.1 kr
  have hlt : (0 : Int) < (f.2.kids.length : Int) := by omega
  rw [Nat.zero_mul] at kl
  simp only [push_cast, ↓reduceIte, Nat.reduceEqDiff, Nat.reduceAdd, Nat.reduceMul, Nat.reduceSub, Nat.reduceLT, Nat.reduceLeDiff, reduceCtorEq, Nat.reduceMod, Int.reduceEq, Int.reduceLT, Int.reduceLE, Int.reduceToNat, dite_true, g1, g2, g3, g4, hlt, Nat.zero_mul, kl]
  intro b b2
  refine CallV.pure (plain F k ka kb ke kll kx) ?_
  rintro _ F1 hF1 rfl
  by_cases g5 : plainB k = true
  case neg =>
    have g5' : plainB k = false := by simpa using g5
    simp only [push_cast, ↓reduceIte, Nat.reduceEqDiff, Nat.reduceAdd, Nat.reduceMul, Nat.reduceSub, Nat.reduceLT, Nat.reduceLeDiff, reduceCtorEq, Nat.reduceMod, Int.reduceEq, Int.reduceLT, Int.reduceLE, Int.reduceToNat, dite_true, g5']
    exact RetOk.p rfl (by unfold fieldOf; rw [ek, ea]; simp [picks, g5']; rfl)
  obtain ⟨ql, _, lc, el1, _, _, ll, lr⟩ := hl.elem (by decide) (i := 0) (a := a) (by rw [ea]; rfl) (fun _ _ h => h.len)
  cases el1
  rw [Nat.zero_mul] at ll
  obtain ⟨av, ac, rfl, hav, har⟩ := RAlt_iff.1 lr
  obtain ⟨ba, bb, be, bl, rfl, bx⟩ := RExp_iff.1 har
  obtain ⟨pv', cv', rfl, hv1', hv2', hv3'⟩ := hav
  obtain ⟨_, _, _, _, _, _, _, _, rfl, rfl, rfl, rfl⟩ := bx.slices
  have hlt2 : (0 : Int) < (f.2.alts.length : Int) := by omega
  simp only [push_cast, ↓reduceIte, Nat.reduceEqDiff, Nat.reduceAdd, Nat.reduceMul, Nat.reduceSub, Nat.reduceLT, Nat.reduceLeDiff, reduceCtorEq, Nat.reduceMod, Int.reduceEq, Int.reduceLT, Int.reduceLE, Int.reduceToNat, dite_true, g5, hlt2, Nat.zero_mul, hF1.cells ll]
  intro b3
  by_cases g6 : a.kind = 1
  case neg =>
    simp only [push_cast, ↓reduceIte, Nat.reduceEqDiff, Nat.reduceAdd, Nat.reduceMul, Nat.reduceSub, Nat.reduceLT, Nat.reduceLeDiff, reduceCtorEq, Nat.reduceMod, Int.reduceEq, Int.reduceLT, Int.reduceLE, Int.reduceToNat, dite_true, g6]
    exact RetOk.p rfl (by unfold fieldOf; rw [ek, ea]; simp [picks, g6]; rfl)
  simp only [push_cast, ↓reduceIte, Nat.reduceEqDiff, Nat.reduceAdd, Nat.reduceMul, Nat.reduceSub, Nat.reduceLT, Nat.reduceLeDiff, reduceCtorEq, Nat.reduceMod, Int.reduceEq, Int.reduceLT, Int.reduceLE, Int.reduceToNat, dite_true, g6]
  refine CallV.pure (plain F1 a.body _ _ _ _ (bx.mono hF1)) ?_
  rintro _ F2 hF2 rfl
  by_cases g7 : plainB a.body = true
  case neg =>
    have g7' : plainB a.body = false := by simpa using g7
    simp only [push_cast, ↓reduceIte, Nat.reduceEqDiff, Nat.reduceAdd, Nat.reduceMul, Nat.reduceSub, Nat.reduceLT, Nat.reduceLeDiff, reduceCtorEq, Nat.reduceMod, Int.reduceEq, Int.reduceLT, Int.reduceLE, Int.reduceToNat, dite_true, g7']
    exact RetOk.p rfl (by unfold fieldOf; rw [ek, ea]; simp [picks, g7']; rfl)
  simp only [push_cast, ↓reduceIte, Nat.reduceEqDiff, Nat.reduceAdd, Nat.reduceMul, Nat.reduceSub, Nat.reduceLT, Nat.reduceLeDiff, reduceCtorEq, Nat.reduceMod, Int.reduceEq, Int.reduceLT, Int.reduceLE, Int.reduceToNat, dite_true, g7]
  have hp : picks f.1 f.2 k a := ⟨by omega, g2, g5, g6, g7⟩
  have hw1 : IntKind.i64.wrap ((a.vars.length : Int) - 1) = (a.vars.length : Int) - 1 := w64 _ (by unfold maxLen at *; omega)
  simp only [push_cast, ↓reduceIte, Nat.reduceEqDiff, Nat.reduceAdd, Nat.reduceMul, Nat.reduceSub, Nat.reduceLT, Nat.reduceLeDiff, reduceCtorEq, Nat.reduceMod, Int.reduceEq, Int.reduceLT, Int.reduceLE, Int.reduceToNat, dite_true, hw1]
  refine VC.loopL (fun i : Nat => [(8, .v (.int .i64 ((i : Int) - 1))), (7, .o 2 b3 0), (6, .o 1 b2 0)]) (fun i => i ≤ a.vars.length ∧ lastAt a.vars a.body.name a.vars.length = lastAt a.vars a.body.name i) (fun i => i) a.vars.length ⟨Nat.le_refl _, rfl⟩ (by simp [subk, Eng.look]) ?_
  rintro i ⟨hi, hli⟩ G hG
  refine VC.go 100 ?_
  cases i with
  | zero =>
    simp only [push_cast, ↓reduceIte, Nat.reduceEqDiff, Nat.reduceAdd, Nat.reduceMul, Nat.reduceSub, Nat.reduceLT, Nat.reduceLeDiff, reduceCtorEq, Nat.reduceMod, Int.reduceEq, Int.reduceLT, Int.reduceLE, Int.reduceToNat, dite_true, show ¬ (0 : Int) ≤ 0 - 1 from by decide]
    exact RetOk.p rfl (by
      have : fieldOf f.1 f.2 = fld0 := by
        unfold fieldOf; rw [ek, ea]
        simp only []
        rw [if_neg]
        rintro ⟨_, h⟩
        rw [hli] at h
        exact absurd h (by simp [lastAt])
      rw [this]; rfl)
  | succ i =>
    have e1 : ((i + 1 : Nat) : Int) - 1 = (i : Int) := by omega
    obtain ⟨qv, rfl, hqv⟩ := (hv3'.mono (PH.le_trans hF1 hF2)).elem1 (i := i) (v := .string (a.vars[i]'(by omega))) (by rw [List.getElem?_map, List.getElem?_eq_getElem (by omega)]; rfl)
    rw [e1]
    have f1 : (0 : Int) ≤ (i : Int) := by omega
    have f2 : (i : Int) < (a.vars.length : Int) := by omega
    have hk2 : F2.cell ((qk.add 0).add 2) = some (.string k.name) := (PH.le_trans hF1 hF2).cell (cell_at kl rfl)
    have hstep : lastAt a.vars a.body.name (i + 1) = if a.vars[i]'(by omega) = a.body.name then (i : Int) else lastAt a.vars a.body.name i := by
      simp only [lastAt, List.getElem?_eq_getElem (show i < a.vars.length by omega), Option.some.injEq]
    simp only [push_cast, ↓reduceIte, Nat.reduceEqDiff, Nat.reduceAdd, Nat.reduceMul, Nat.reduceSub, Nat.reduceLT, Nat.reduceLeDiff, reduceCtorEq, Nat.reduceMod, Int.reduceEq, Int.reduceLT, Int.reduceLE, Int.reduceToNat, dite_true, f1]
    refine VC.draw (.q 0 (.q 1 (.q 2 (.q 3 (.q 4 (.q 5 (.q 6 (.q 7 (.q 8 (.done)))))))))) mixed (by rfl) ?_
    simp only [push_cast, ↓reduceIte, Nat.reduceEqDiff, Nat.reduceAdd, Nat.reduceMul, Nat.reduceSub, Nat.reduceLT, Nat.reduceLeDiff, reduceCtorEq, Nat.reduceMod, Int.reduceEq, Int.reduceLT, Int.reduceLE, Int.reduceToNat, dite_true, f1, f2, hqv]
    refine VC.go 100 ?_
    by_cases g8 : a.vars[i]'(by omega) = a.body.name
    · simp only [push_cast, ↓reduceIte, Nat.reduceEqDiff, Nat.reduceAdd, Nat.reduceMul, Nat.reduceSub, Nat.reduceLT, Nat.reduceLeDiff, reduceCtorEq, Nat.reduceMod, Int.reduceEq, Int.reduceLT, Int.reduceLE, Int.reduceToNat, dite_true, g8]
      refine VC.draw (.q 0 (.q 1 (.q 2 (.q 3 (.q 4 (.q 5 (.q 6 (.q 7 (.q 8 (.q 9 (.q 10 (.q 11 (.done))))))))))))) mixed (by rfl) ?_
      simp only [push_cast, ↓reduceIte, Nat.reduceEqDiff, Nat.reduceAdd, Nat.reduceMul, Nat.reduceSub, Nat.reduceLT, Nat.reduceLeDiff, reduceCtorEq, Nat.reduceMod, Int.reduceEq, Int.reduceLT, Int.reduceLE, Int.reduceToNat, dite_true, hlt, hk2, Nat.zero_mul]
      refine VC.go 100 ?_
      simp only [push_cast, ↓reduceIte, Nat.reduceEqDiff, Nat.reduceAdd, Nat.reduceMul, Nat.reduceSub, Nat.reduceLT, Nat.reduceLeDiff, reduceCtorEq, Nat.reduceMod, Int.reduceEq, Int.reduceLT, Int.reduceLE, Int.reduceToNat, dite_true]
      exact RetOk.p rfl (by
        rw [hstep, if_pos g8] at hli
        unfold fieldOf; rw [ek, ea]
        simp only []
        rw [if_pos ⟨hp, by omega⟩, hli]; rfl)
    · have e2 : IntKind.i64.wrap ((i : Int) - 1) = (i : Int) - 1 := w64 _ (by unfold maxLen at *; omega)
      simp only [push_cast, ↓reduceIte, Nat.reduceEqDiff, Nat.reduceAdd, Nat.reduceMul, Nat.reduceSub, Nat.reduceLT, Nat.reduceLeDiff, reduceCtorEq, Nat.reduceMod, Int.reduceEq, Int.reduceLT, Int.reduceLE, Int.reduceToNat, dite_true, g8, e2]
      rw [hstep, if_neg g8] at hli
      exact hG i _ ⟨by omega, hli⟩ (by omega) (by simp [subk, Eng.look]) (List.Sublist.refl _) rfl rfl
def lessL (l names : List ByteArray) : List ByteArray := l.filter (fun s => !names.any (fun n => decide (n = s)))
theorem lessL_length (l names : List ByteArray) : (lessL l names).length ≤ l.length := List.length_filter_le _ _
theorem lessL_append (a b names : List ByteArray) : lessL (a ++ b) names = lessL a names ++ lessL b names := List.filter_append ..
theorem less (F : PH) (lv nv : Value) (l names : List ByteArray) (hl : Strs F lv l) (hn : Strs F nv names) (hb : l.length ≤ 100000000) : RowS Tryd.prog 126 [lv, nv] F (lessL l names) := by
  obtain ⟨pl, cl, rfl, hl1, hl2, hl3⟩ := hl
  have hn' := hn
  obtain ⟨pn, cn, rfl, hn1, hn2, hn3⟩ := hn
  refine Fn.intro (n := 24) (ts := [4]) Tryd.func126 rfl rfl rfl rfl (by simp) fun B hB => VC.emp ?_
  refine VC.go 100 ?_
  simp only [push_cast, ↓reduceIte, Nat.reduceEqDiff, Nat.reduceAdd, Nat.reduceMul, Nat.reduceSub, Nat.reduceLT, Nat.reduceLeDiff, reduceCtorEq, Nat.reduceMod, Int.reduceEq, Int.reduceLT, Int.reduceLE, Int.reduceToNat, dite_true]
  refine VC.loopR (ι := Nat × Value × PH × PH) (fun i => [(10, .v (.int .i64 i.1)), (9, .v (.int .i64 l.length)), (8, .v (.slice pl l.length cl)), (5, .v i.2.1), (1, .v (.slice pn names.length cn))]) (fun i => i.2.2.1) (fun i => i.2.2.2) [] (fun i => i.1 ≤ l.length ∧ F.le i.2.2.1 ∧ Row i.2.2.2 9 1 i.2.1 ((lessL (l.take i.1) names).map .string)) (fun i => l.length - i.1) (0, .slice none 0 0, F, PH.emp) ⟨Nat.zero_le _, PH.le_refl _, Row.nil _ _⟩ (by simp [subk, Eng.look]) rfl rfl ?_
  rintro ⟨k, v, F1, r⟩ ⟨hk, hF1, hrow⟩ G hG
  dsimp only at hk hF1 hrow hG ⊢
  by_cases h : k < l.length
  case neg =>
    refine VC.go 100 ?_
    have h' : ¬ (k : Int) < (l.length : Int) := by omega
    simp only [push_cast, ↓reduceIte, Nat.reduceEqDiff, Nat.reduceAdd, Nat.reduceMul, Nat.reduceSub, Nat.reduceLT, Nat.reduceLeDiff, reduceCtorEq, Nat.reduceMod, Int.reduceEq, Int.reduceLT, Int.reduceLE, Int.reduceToNat, dite_true, h']
    rw [List.take_of_length_le (by omega)] at hrow
    exact ⟨_, [r], rfl, RetR.refl _, r, rfl, hrow⟩
  have h' : (k : Int) < (l.length : Int) := by omega
  have h0 : (0 : Int) ≤ (k : Int) := by omega
  obtain ⟨a, rfl, ha⟩ := (hl3.mono hF1).elem1 (i := k) (v := .string l[k]) (by simp [h])
  refine VC.go 10 ?_
  simp only [push_cast, ↓reduceIte, Nat.reduceEqDiff, Nat.reduceAdd, Nat.reduceMul, Nat.reduceSub, Nat.reduceLT, Nat.reduceLeDiff, reduceCtorEq, Nat.reduceMod, Int.reduceEq, Int.reduceLT, Int.reduceLE, Int.reduceToNat, dite_true, h', h0, ha]
  intro b
  refine VC.freeze (List.Perm.refl _) fun F2 hF2 hb2 => ?_
  refine VC.reL [(7, .v (.pointer (some ⟨b, 0, none⟩))), (10, .v (.int .i64 k)), (9, .v (.int .i64 l.length)), (8, .v (.slice (some a) l.length cl)), (5, .v v), (1, .v (.slice pn names.length cn))] (by simp [subv, Eng.look, AV.val]) ?_
  have hc : F2.cell ⟨b, 0, none⟩ = some (.string l[k]) := by simp [PH.cell, hb2]
  refine VC.go 100 ?_
  simp only [push_cast, ↓reduceIte, Nat.reduceEqDiff, Nat.reduceAdd, Nat.reduceMul, Nat.reduceSub, Nat.reduceLT, Nat.reduceLeDiff, reduceCtorEq, Nat.reduceMod, Int.reduceEq, Int.reduceLT, Int.reduceLE, Int.reduceToNat, dite_true]
  refine CallV.pure (some_spec F2 _ names _ #[] #[.pointer (some ⟨b, 0, none⟩)] (fun n => decide (n = l[k])) ((hn'.mono hF1).mono hF2) fun s _ F' hF' => less1 s l[k] b F' (hF'.cell hc)) ?_
  rintro _ F3 hF3 rfl
  have e2 : IntKind.i64.wrap ((k : Int) + 1) = ((k + 1 : Nat) : Int) := wrap_add k h (Nat.le_trans hl1 hl2)
  have ht : lessL (l.take (k + 1)) names = lessL (l.take k) names ++ lessL [l[k]] names := by rw [List.take_succ_eq_append_getElem h, lessL_append]
  have hF13 := PH.le_trans hF2 hF3
  by_cases hs : names.any (fun n => decide (n = l[k])) = true
  · simp only [push_cast, ↓reduceIte, Nat.reduceEqDiff, Nat.reduceAdd, Nat.reduceMul, Nat.reduceSub, Nat.reduceLT, Nat.reduceLeDiff, reduceCtorEq, Nat.reduceMod, Int.reduceEq, Int.reduceLT, Int.reduceLE, Int.reduceToNat, dite_true, hs, e2]
    rw [show lessL [l[k]] names = [] from by simp [lessL, hs], List.append_nil] at ht
    exact hG (k + 1, v, F3, r) _ ⟨by omega, PH.le_trans hF1 hF13, by rw [ht]; exact hrow⟩ (by simp; omega) (by simp [subk, Eng.look]) (List.Sublist.refl _) rfl rfl
  · have hs' : names.any (fun n => decide (n = l[k])) = false := Bool.eq_false_iff.2 hs
    simp only [push_cast, ↓reduceIte, Nat.reduceEqDiff, Nat.reduceAdd, Nat.reduceMul, Nat.reduceSub, Nat.reduceLT, Nat.reduceLeDiff, reduceCtorEq, Nat.reduceMod, Int.reduceEq, Int.reduceLT, Int.reduceLE, Int.reduceToNat, dite_true, hs', hF3.cell hc]
    intro b2 F4 hF4 hb4
    rw [show lessL [l[k]] names = [l[k]] from by simp [lessL, hs']] at ht
    refine Eff.append (xs := (lessL (l.take k) names).map .string) (ys := [.string l[k]]) rfl rfl rfl ty44 rfl ty9 rfl (by decide) rfl rfl (List.Perm.refl _) hrow (Src.blk hb4 rfl) (by simp [Value.oneCell']) ?_ (by decide) ?_
    · have := lessL_length (l.take k) names
      simp only [List.length_map, List.length_take, List.length_cons, List.length_nil] at this ⊢
      omega
    intro v' r' hrow'
    simp only [push_cast, ↓reduceIte, Nat.reduceEqDiff, Nat.reduceAdd, Nat.reduceMul, Nat.reduceSub, Nat.reduceLT, Nat.reduceLeDiff, reduceCtorEq, Nat.reduceMod, Int.reduceEq, Int.reduceLT, Int.reduceLE, Int.reduceToNat, dite_true, e2]
    exact hG (k + 1, v', F4, r') _ ⟨by omega, PH.le_trans (PH.le_trans hF1 hF13) hF4, by rw [ht, List.map_append]; exact hrow'⟩ (by simp; omega) (by simp [subk, Eng.look]) (List.Sublist.refl _) rfl rfl
def onceL (l : List ByteArray) : List ByteArray := l.foldl (fun out s => out ++ lessL [s] out) []
theorem onceL_snoc (l : List ByteArray) (s : ByteArray) : onceL (l ++ [s]) = onceL l ++ lessL [s] (onceL l) := by simp [onceL, List.foldl_append]
theorem onceL_fold (l : List ByteArray) : ∀ acc : List ByteArray, (l.foldl (fun out s => out ++ lessL [s] out) acc).length ≤ acc.length + l.length := by
  induction l with
  | nil => intro acc; simp
  | cons s l ih =>
    intro acc
    have h1 := ih (acc ++ lessL [s] acc)
    have h2 := lessL_length [s] acc
    simp only [List.foldl_cons, List.length_append, List.length_cons, List.length_nil] at h1 h2 ⊢
    omega
theorem onceL_length (l : List ByteArray) : (onceL l).length ≤ l.length := by
  have := onceL_fold l []
  simpa [onceL] using this
theorem once (F : PH) (lv : Value) (l : List ByteArray) (hl : Strs F lv l) (hb : l.length ≤ 100000000) : RowS Tryd.prog 130 [lv] F (onceL l) := by
  obtain ⟨pl, cl, rfl, hl1, hl2, hl3⟩ := hl
  refine Fn.intro (n := 20) (ts := [2]) Tryd.func130 rfl rfl rfl rfl (by simp) fun B hB => VC.emp ?_
  refine VC.go 100 ?_
  simp only [push_cast, ↓reduceIte, Nat.reduceEqDiff, Nat.reduceAdd, Nat.reduceMul, Nat.reduceSub, Nat.reduceLT, Nat.reduceLeDiff, reduceCtorEq, Nat.reduceMod, Int.reduceEq, Int.reduceLT, Int.reduceLE, Int.reduceToNat, dite_true]
  refine VC.loopG (ι := Nat × Value × PH × PH) (fun i => [(8, .v (.int .i64 i.1)), (7, .v (.int .i64 l.length)), (6, .v (.slice pl l.length cl)), (3, .v i.2.1)]) (fun i => i.2.2.1) (fun i => [i.2.2.2]) (fun i => i.1 ≤ l.length ∧ F.le i.2.2.1 ∧ Row i.2.2.2 9 1 i.2.1 ((onceL (l.take i.1)).map .string)) (fun i => l.length - i.1) (0, .slice none 0 0, F, PH.emp) ⟨Nat.zero_le _, PH.le_refl _, Row.nil _ _⟩ (by simp [subk, Eng.look]) rfl (List.Sublist.refl _) ?_
  rintro ⟨k, v, F1, r⟩ ⟨hk, hF1, hrow⟩ G hG
  dsimp only at hk hF1 hrow hG ⊢
  refine VC.go 100 ?_
  by_cases h : k < l.length
  case neg =>
    have h' : ¬ (k : Int) < (l.length : Int) := by omega
    simp only [push_cast, ↓reduceIte, Nat.reduceEqDiff, Nat.reduceAdd, Nat.reduceMul, Nat.reduceSub, Nat.reduceLT, Nat.reduceLeDiff, reduceCtorEq, Nat.reduceMod, Int.reduceEq, Int.reduceLT, Int.reduceLE, Int.reduceToNat, dite_true, h']
    rw [List.take_of_length_le (by omega)] at hrow
    exact ⟨_, [r], rfl, RetR.refl _, r, rfl, hrow⟩
  have h' : (k : Int) < (l.length : Int) := by omega
  have h0 : (0 : Int) ≤ (k : Int) := by omega
  obtain ⟨a, rfl, ha⟩ := (hl3.mono hF1).elem1 (i := k) (v := .string l[k]) (by simp [h])
  have e2 : IntKind.i64.wrap ((k : Int) + 1) = ((k + 1 : Nat) : Int) := wrap_add k h (Nat.le_trans hl1 hl2)
  have ht : onceL (l.take (k + 1)) = onceL (l.take k) ++ lessL [l[k]] (onceL (l.take k)) := by rw [List.take_succ_eq_append_getElem h, onceL_snoc]
  have hlen := onceL_length (l.take k)
  simp only [push_cast, ↓reduceIte, Nat.reduceEqDiff, Nat.reduceAdd, Nat.reduceMul, Nat.reduceSub, Nat.reduceLT, Nat.reduceLeDiff, reduceCtorEq, Nat.reduceMod, Int.reduceEq, Int.reduceLT, Int.reduceLE, Int.reduceToNat, dite_true, h', h0, ha]
  intro b F2 hF2 hb2
  have hone : Strs F2 (.slice (some ⟨b, 0, none⟩) 1 1) [l[k]] := strs_blk (l := [l[k]]) hb2 one_max
  refine CallV.lendSl (r := r) (Rf := []) (List.Perm.refl _) (less F2 _ _ [l[k]] [] hone ⟨none, 0, rfl, Nat.le_refl _, Nat.zero_le _, rfl, fun h => absurd h (by simp)⟩ (by simp)).1 (fun hd => less (F2.or r) _ _ [l[k]] (onceL (l.take k)) (hone.mono (PH.or_left _ _)) (Row.strs hrow (PH.or_right hd)) (by simp)) ?_
  intro v2 F3 m hF3 hm hv2
  have hv2' := sl_strs hm hv2
  obtain ⟨p2, c2, rfl, _, _, hs2⟩ := hv2'
  simp only [push_cast, ↓reduceIte, Nat.reduceEqDiff, Nat.reduceAdd, Nat.reduceMul, Nat.reduceSub, Nat.reduceLT, Nat.reduceLeDiff, reduceCtorEq, Nat.reduceMod, Int.reduceEq, Int.reduceLT, Int.reduceLE, Int.reduceToNat, dite_true]
  refine Eff.append (xs := (onceL (l.take k)).map .string) (ys := (lessL [l[k]] (onceL (l.take k))).map .string) rfl rfl rfl ty44 rfl ty9 rfl (by decide) rfl rfl (List.Perm.refl _) hrow hs2 (by simp [Value.oneCell']) ?_ (by decide) ?_
  · have := lessL_length [l[k]] (onceL (l.take k))
    simp only [List.length_map, List.length_take, List.length_cons, List.length_nil] at this hlen ⊢
    omega
  intro v' r' hrow'
  simp only [push_cast, ↓reduceIte, Nat.reduceEqDiff, Nat.reduceAdd, Nat.reduceMul, Nat.reduceSub, Nat.reduceLT, Nat.reduceLeDiff, reduceCtorEq, Nat.reduceMod, Int.reduceEq, Int.reduceLT, Int.reduceLE, Int.reduceToNat, dite_true, e2]
  exact hG (k + 1, v', F3, r') _ ⟨by omega, PH.le_trans hF1 (PH.le_trans hF2 hF3), by rw [ht, List.map_append]; exact hrow'⟩ (by simp; omega) (by simp [subk, Eng.look]) (List.Sublist.refl _) rfl (List.Sublist.refl _)
def atomsL (l : List (ByteArray × Int)) : List ByteArray := l.flatMap fun a => lessL [a.1] [⟨#[]⟩]
theorem atomsL_length (l : List (ByteArray × Int)) : (atomsL l).length ≤ l.length := by
  induction l with
  | nil => simp [atomsL]
  | cons a l ih =>
    have := lessL_length [a.1] [⟨#[]⟩]
    simp only [atomsL, List.flatMap_cons, List.length_append, List.length_cons, List.length_nil] at this ih ⊢
    omega
theorem atomVals_len (l : List (ByteArray × Int)) : (atomVals l).length = l.length * 2 := by
  induction l with
  | nil => rfl
  | cons a l ih => simp only [atomVals, List.length_cons, ih]; omega
theorem atoms (F : PH) (e : Exp) (va vb ve vl : Value) (h : ExpAt F e va vb ve vl) (hb : e.atoms.length ≤ 100000000) : RowS Tryd.prog 127 [.agg (expCells e va vb ve vl).toArray] F (atomsL e.atoms) := by
  obtain ⟨⟨pa, ca, rfl, ha1, ha2, ha3⟩, _, _, _⟩ := h
  refine Fn.intro (n := 22) (ts := [2]) Tryd.func127 rfl rfl rfl rfl (by simp) fun B hB => VC.emp ?_
  refine VC.go 100 ?_
  simp only [push_cast, ↓reduceIte, Nat.reduceEqDiff, Nat.reduceAdd, Nat.reduceMul, Nat.reduceSub, Nat.reduceLT, Nat.reduceLeDiff, reduceCtorEq, Nat.reduceMod, Int.reduceEq, Int.reduceLT, Int.reduceLE, Int.reduceToNat, dite_true]
  intro bb
  refine VC.loopG (ι := Nat × Value × PH × PH) (fun i => [(9, .v (.int .i64 i.1)), (8, .v (.int .i64 e.atoms.length)), (7, .v (.slice pa e.atoms.length ca)), (3, .v i.2.1)]) (fun i => i.2.2.1) (fun i => [i.2.2.2]) (fun i => i.1 ≤ e.atoms.length ∧ F.le i.2.2.1 ∧ Row i.2.2.2 9 1 i.2.1 ((atomsL (e.atoms.take i.1)).map .string)) (fun i => e.atoms.length - i.1) (0, .slice none 0 0, F, PH.emp) ⟨Nat.zero_le _, PH.le_refl _, Row.nil _ _⟩ (by simp [subk, Eng.look]) rfl (List.Sublist.refl _) ?_
  rintro ⟨k, v, F1, r⟩ ⟨hk, hF1, hrow⟩ G hG
  dsimp only at hk hF1 hrow hG ⊢
  refine VC.go 100 ?_
  by_cases h : k < e.atoms.length
  case neg =>
    have h' : ¬ (k : Int) < (e.atoms.length : Int) := by omega
    simp only [push_cast, ↓reduceIte, Nat.reduceEqDiff, Nat.reduceAdd, Nat.reduceMul, Nat.reduceSub, Nat.reduceLT, Nat.reduceLeDiff, reduceCtorEq, Nat.reduceMod, Int.reduceEq, Int.reduceLT, Int.reduceLE, Int.reduceToNat, dite_true, h']
    rw [List.take_of_length_le (by omega)] at hrow
    exact ⟨_, [r], rfl, RetR.refl _, r, rfl, hrow⟩
  have h' : (k : Int) < (e.atoms.length : Int) := by omega
  have h0 : (0 : Int) ≤ (k : Int) := by omega
  obtain ⟨a, rfl, ha⟩ := (ha3.mono hF1).elem h (by decide)
  rw [atomVals_at _ _ h] at ha
  have e2 : IntKind.i64.wrap ((k : Int) + 1) = ((k + 1 : Nat) : Int) := wrap_add k h (Nat.le_trans ha1 ha2)
  have ht : atomsL (e.atoms.take (k + 1)) = atomsL (e.atoms.take k) ++ lessL [(e.atoms[k]).1] [⟨#[]⟩] := by rw [List.take_succ_eq_append_getElem h, atomsL, List.flatMap_append]; simp [atomsL]
  have hlen := atomsL_length (e.atoms.take k)
  simp only [push_cast, ↓reduceIte, Nat.reduceEqDiff, Nat.reduceAdd, Nat.reduceMul, Nat.reduceSub, Nat.reduceLT, Nat.reduceLeDiff, reduceCtorEq, Nat.reduceMod, Int.reduceEq, Int.reduceLT, Int.reduceLE, Int.reduceToNat, dite_true, h', h0, ha]
  intro b0 b1 F2 hF2 hb2 b3 F3 hF3 hb3
  have hone : Strs F3 (.slice (some ⟨b1, 0, none⟩) 1 1) [(e.atoms[k]).1] := (strs_blk (l := [(e.atoms[k]).1]) hb2 one_max).mono hF3
  have htwo : Strs F3 (.slice (some ⟨b3, 0, none⟩) 1 1) [⟨#[]⟩] := strs_blk (l := [⟨#[]⟩]) hb3 one_max
  refine CallV.sl (less F3 _ _ _ _ hone htwo (by simp)) ?_
  intro v2 F4 m hF4 hm hv2
  obtain ⟨p2, c2, rfl, _, _, hs2⟩ := sl_strs hm hv2
  simp only [push_cast, ↓reduceIte, Nat.reduceEqDiff, Nat.reduceAdd, Nat.reduceMul, Nat.reduceSub, Nat.reduceLT, Nat.reduceLeDiff, reduceCtorEq, Nat.reduceMod, Int.reduceEq, Int.reduceLT, Int.reduceLE, Int.reduceToNat, dite_true]
  refine Eff.append (xs := (atomsL (e.atoms.take k)).map .string) (ys := (lessL [(e.atoms[k]).1] [⟨#[]⟩]).map .string) rfl rfl rfl ty44 rfl ty9 rfl (by decide) rfl rfl (List.Perm.refl _) hrow hs2 (by simp [Value.oneCell']) ?_ (by decide) ?_
  · have := lessL_length [(e.atoms[k]).1] [⟨#[]⟩]
    simp only [List.length_map, List.length_take, List.length_cons, List.length_nil] at this hlen ⊢
    omega
  intro v' r' hrow'
  simp only [push_cast, ↓reduceIte, Nat.reduceEqDiff, Nat.reduceAdd, Nat.reduceMul, Nat.reduceSub, Nat.reduceLT, Nat.reduceLeDiff, reduceCtorEq, Nat.reduceMod, Int.reduceEq, Int.reduceLT, Int.reduceLE, Int.reduceToNat, dite_true, e2]
  exact hG (k + 1, v', F4, r') _ ⟨by omega, PH.le_trans hF1 (PH.le_trans hF2 (PH.le_trans hF3 hF4)), by rw [ht, List.map_append]; exact hrow'⟩ (by simp; omega) (by simp [subk, Eng.look]) (by simp) rfl (List.Sublist.refl _)
mutual
def within : Exp → List ByteArray
  | .mk k a s n ats bs es ls => onceL (if k = 1 then lessL [s] [⟨#[]⟩] ++ atomsL ats else if k = 2 ∨ k = 3 then atomsL ats else if k = 5 then lessL (withinBs bs ++ withinKid es) (bs.map Bind.name) else if k = 6 then withinKid es ++ withinLs ls else [])
def withinB : Bind → List ByteArray
  | .mk s a l e => lessL (within e) l
def withinL : Alt → List ByteArray
  | .mk k a s n l e => if k = 1 then lessL (within e) l else if k = 3 then lessL (within e) [s] else within e
def withinBs : List Bind → List ByteArray
  | [] => []
  | b :: bs => withinB b ++ withinBs bs
def withinKid : List Exp → List ByteArray
  | [] => []
  | e :: _ => within e
def withinLs : List Alt → List ByteArray
  | [] => []
  | b :: bs => withinL b ++ withinLs bs
end
theorem withinBs_flat : ∀ l : List Bind, withinBs l = l.flatMap withinB
  | [] => rfl
  | b :: l => by simp [withinBs, withinBs_flat l]
theorem withinLs_flat : ∀ l : List Alt, withinLs l = l.flatMap withinL
  | [] => rfl
  | b :: l => by simp [withinLs, withinLs_flat l]
theorem sizeA_len (l : List (ByteArray × Int)) : l.length ≤ sizeA l := by
  induction l with
  | nil => simp
  | cons a l ih => simp only [sizeA, List.length_cons]; omega
mutual
theorem within_len : ∀ e : Exp, (within e).length ≤ e.size
  | .mk k a s n ats bs es ls => by
    refine Nat.le_trans (onceL_length _) ?_
    have h1 := lessL_length [s] [⟨#[]⟩]
    have h2 := atomsL_length ats
    have h3 := sizeA_len ats
    have h4 := withinBs_len bs
    have h5 := withinKid_len es
    have h6 := withinLs_len ls
    have h7 := lessL_length (withinBs bs ++ withinKid es) (bs.map Bind.name)
    simp only [List.length_append, List.length_cons, List.length_nil] at h1 h7
    simp only [Exp.size]
    split
    · simp only [List.length_append]; omega
    split
    · omega
    split
    · omega
    split
    · simp only [List.length_append]; omega
    · simp
theorem withinB_len : ∀ e : Bind, (withinB e).length ≤ e.size
  | .mk s a l e => by
    have h1 := within_len e
    have h2 := lessL_length (within e) l
    simp only [withinB, Bind.size]; omega
theorem withinL_len : ∀ e : Alt, (withinL e).length ≤ e.size
  | .mk k a s n l e => by
    have h1 := within_len e
    have h2 := lessL_length (within e) l
    have h3 := lessL_length (within e) [s]
    simp only [withinL, Alt.size]
    split
    · omega
    split <;> omega
theorem withinBs_len : ∀ l : List Bind, (withinBs l).length ≤ sizeBs l
  | [] => by simp [withinBs]
  | e :: l => by
    have h1 := withinB_len e
    have h2 := withinBs_len l
    simp only [withinBs, sizeBs, List.length_append]; omega
theorem withinKid_len : ∀ l : List Exp, (withinKid l).length ≤ sizeEs l
  | [] => by simp [withinKid]
  | e :: l => by
    have h1 := within_len e
    simp only [withinKid, sizeEs]; omega
theorem withinLs_len : ∀ l : List Alt, (withinLs l).length ≤ sizeLs l
  | [] => by simp [withinLs]
  | e :: l => by
    have h1 := withinL_len e
    have h2 := withinLs_len l
    simp only [withinLs, sizeLs, List.length_append]; omega
end
/-- The contract of Within, for one expression, wherever it lies. -/
def WithinOk (e : Exp) : Prop := ∀ (F : PH) (va vb ve vl : Value), ExpAt F e va vb ve vl → RowS Tryd.prog 115 [.agg (expCells e va vb ve vl).toArray] F (within e)
theorem free (F : PH) (f : List ByteArray × Exp) (v va vb ve vl : Value) (hv : Strs F v f.1) (h : ExpAt F f.2 va vb ve vl) (hW : WithinOk f.2) (hb : f.2.size ≤ 100000000) : RowS Tryd.prog 113 [.agg (v :: expCells f.2 va vb ve vl).toArray] F (lessL (within f.2) f.1) := by
  have hv' := hv
  obtain ⟨pv, cv, rfl, hv1, hv2, hv3⟩ := hv
  obtain ⟨_, _, _, _, _, _, _, _, rfl, rfl, rfl, rfl⟩ := h.slices
  refine Fn.intro (n := 9) (ts := [2]) Tryd.func113 rfl rfl rfl rfl (by simp) fun B hB => VC.go 100 ?_
  simp only [push_cast, ↓reduceIte, Nat.reduceEqDiff, Nat.reduceAdd, Nat.reduceMul, Nat.reduceSub, Nat.reduceLT, Nat.reduceLeDiff, reduceCtorEq, Nat.reduceMod, Int.reduceEq, Int.reduceLT, Int.reduceLE, Int.reduceToNat, dite_true]
  intro b
  refine VC.draw (.q 0 (.q 1 (.q 3 (.q 4 (.e 2 (.e 5 (.q 6 (.done)))))))) mixed (by rfl) ?_
  simp only [push_cast, ↓reduceIte, Nat.reduceEqDiff, Nat.reduceAdd, Nat.reduceMul, Nat.reduceSub, Nat.reduceLT, Nat.reduceLeDiff, reduceCtorEq, Nat.reduceMod, Int.reduceEq, Int.reduceLT, Int.reduceLE, Int.reduceToNat, dite_true]
  refine CallV.sl (hW F _ _ _ _ h) ?_
  intro v2 F2 m hF2 hm hv2
  have hs := sl_strs hm hv2
  obtain ⟨p2, c2, rfl, k1, k2, k3⟩ := hs
  simp only [push_cast, ↓reduceIte, Nat.reduceEqDiff, Nat.reduceAdd, Nat.reduceMul, Nat.reduceSub, Nat.reduceLT, Nat.reduceLeDiff, reduceCtorEq, Nat.reduceMod, Int.reduceEq, Int.reduceLT, Int.reduceLE, Int.reduceToNat, dite_true]
  refine CallV.row (less F2 _ _ _ _ ⟨p2, c2, rfl, k1, k2, k3⟩ (hv'.mono hF2) (Nat.le_trans (within_len _) hb)) ?_
  intro v3 F3 r hF3 hrow
  simp only [push_cast, ↓reduceIte, Nat.reduceEqDiff, Nat.reduceAdd, Nat.reduceMul, Nat.reduceSub, Nat.reduceLT, Nat.reduceLeDiff, reduceCtorEq, Nat.reduceMod, Int.reduceEq, Int.reduceLT, Int.reduceLE, Int.reduceToNat, dite_true]
  refine VC.go 100 ?_
  simp only [push_cast, ↓reduceIte, Nat.reduceEqDiff, Nat.reduceAdd, Nat.reduceMul, Nat.reduceSub, Nat.reduceLT, Nat.reduceLeDiff, reduceCtorEq, Nat.reduceMod, Int.reduceEq, Int.reduceLT, Int.reduceLE, Int.reduceToNat, dite_true]
  exact ⟨_, [r], rfl, RetR.refl _, r, rfl, hrow⟩
theorem kid (F : PH) (e : Exp) (va vb ve vl : Value) (h : ExpAt F e va vb ve vl) (hW : ∀ k ∈ e.kids, WithinOk k) : RowS Tryd.prog 128 [.agg (expCells e va vb ve vl).toArray] F (withinKid e.kids) := by
  have hk := h.kids
  obtain ⟨_, _, _, _, _, _, _, _, rfl, rfl, rfl, rfl⟩ := h.slices
  refine Fn.intro (n := 12) (ts := [2]) Tryd.func128 rfl rfl rfl rfl (by simp) fun B hB => VC.emp ?_
  refine VC.go 100 ?_
  cases e' : e.kids with
  | nil =>
    simp only [push_cast, ↓reduceIte, Nat.reduceEqDiff, Nat.reduceAdd, Nat.reduceMul, Nat.reduceSub, Nat.reduceLT, Nat.reduceLeDiff, reduceCtorEq, Nat.reduceMod, Int.reduceEq, Int.reduceLT, Int.reduceLE, Int.reduceToNat, dite_true, e']
    intro b
    exact ⟨_, [PH.emp], rfl, RetR.refl _, _, rfl, Row.nil _ _⟩
  | cons k ks =>
    obtain ⟨q, _, cs, eq, _, _, kl, kr⟩ := hk.elem (by decide) (i := 0) (a := k) (by rw [e']; rfl) (fun _ _ h => h.len)
    cases eq
    obtain ⟨ka, kb, ke, kll, rfl, kx⟩ := RExp_iff.1 kr
    rw [Nat.zero_mul] at kl
    have g1 : ¬ (ks.length : Int) + 1 = 0 := by omega
    have g2 : (0 : Int) < (ks.length : Int) + 1 := by omega
    simp only [push_cast, ↓reduceIte, Nat.reduceEqDiff, Nat.reduceAdd, Nat.reduceMul, Nat.reduceSub, Nat.reduceLT, Nat.reduceLeDiff, reduceCtorEq, Nat.reduceMod, Int.reduceEq, Int.reduceLT, Int.reduceLE, Int.reduceToNat, dite_true, g1, g2, Nat.zero_mul, kl]
    intro b
    refine CallV.row (hW k (by rw [e']; exact List.mem_cons_self) F _ _ _ _ kx) ?_
    intro v3 F3 r hF3 hrow
    simp only [push_cast, ↓reduceIte, Nat.reduceEqDiff, Nat.reduceAdd, Nat.reduceMul, Nat.reduceSub, Nat.reduceLT, Nat.reduceLeDiff, reduceCtorEq, Nat.reduceMod, Int.reduceEq, Int.reduceLT, Int.reduceLE, Int.reduceToNat, dite_true]
    exact ⟨_, [r], rfl, .sub (by simp), r, rfl, hrow⟩
theorem bound (F : PH) (a : Alt) (v va vb ve vl : Value) (hv : Strs F v a.vars) (h : ExpAt F a.body va vb ve vl) (hW : WithinOk a.body) (hb : a.body.size ≤ 100000000) :
    RowS Tryd.prog 129 [.agg (.int .i64 a.kind :: .int .i64 a.at_ :: .string a.name :: .int .i64 a.n :: v :: expCells a.body va vb ve vl).toArray] F (withinL a) := by
  have hv' := hv
  obtain ⟨pv, cv, rfl, hv1, hv2, hv3⟩ := hv
  obtain ⟨_, _, _, _, _, _, _, _, rfl, rfl, rfl, rfl⟩ := h.slices
  have hL : withinL a = if a.kind = 1 then lessL (within a.body) a.vars else if a.kind = 3 then lessL (within a.body) [a.name] else within a.body := by
    cases a; rfl
  refine Fn.intro (n := 23) (ts := [2]) Tryd.func129 rfl rfl rfl rfl (by simp) fun B hB => VC.go 100 ?_
  by_cases g1 : a.kind = 1
  · simp only [push_cast, ↓reduceIte, Nat.reduceEqDiff, Nat.reduceAdd, Nat.reduceMul, Nat.reduceSub, Nat.reduceLT, Nat.reduceLeDiff, reduceCtorEq, Nat.reduceMod, Int.reduceEq, Int.reduceLT, Int.reduceLE, Int.reduceToNat, dite_true, g1]
    intro b
    refine CallV.sl (hW F _ _ _ _ h) ?_
    intro v2 F2 m hF2 hm hv2
    have hs := sl_strs hm hv2
    obtain ⟨p2, c2, rfl, k1, k2, k3⟩ := hs
    simp only [push_cast, ↓reduceIte, Nat.reduceEqDiff, Nat.reduceAdd, Nat.reduceMul, Nat.reduceSub, Nat.reduceLT, Nat.reduceLeDiff, reduceCtorEq, Nat.reduceMod, Int.reduceEq, Int.reduceLT, Int.reduceLE, Int.reduceToNat, dite_true]
    refine CallV.row (less F2 _ _ _ _ ⟨p2, c2, rfl, k1, k2, k3⟩ (hv'.mono hF2) (Nat.le_trans (within_len _) hb)) ?_
    intro v3 F3 r hF3 hrow
    simp only [push_cast, ↓reduceIte, Nat.reduceEqDiff, Nat.reduceAdd, Nat.reduceMul, Nat.reduceSub, Nat.reduceLT, Nat.reduceLeDiff, reduceCtorEq, Nat.reduceMod, Int.reduceEq, Int.reduceLT, Int.reduceLE, Int.reduceToNat, dite_true]
    exact ⟨_, [r], rfl, RetR.refl _, r, rfl, by rw [hL, if_pos g1]; exact hrow⟩
  by_cases g2 : a.kind = 3
  · simp only [push_cast, ↓reduceIte, Nat.reduceEqDiff, Nat.reduceAdd, Nat.reduceMul, Nat.reduceSub, Nat.reduceLT, Nat.reduceLeDiff, reduceCtorEq, Nat.reduceMod, Int.reduceEq, Int.reduceLT, Int.reduceLE, Int.reduceToNat, dite_true, g1, g2]
    intro b
    refine CallV.sl (hW F _ _ _ _ h) ?_
    intro v2 F2 m hF2 hm hv2
    have hs := sl_strs hm hv2
    obtain ⟨p2, c2, rfl, k1, k2, k3⟩ := hs
    simp only [push_cast, ↓reduceIte, Nat.reduceEqDiff, Nat.reduceAdd, Nat.reduceMul, Nat.reduceSub, Nat.reduceLT, Nat.reduceLeDiff, reduceCtorEq, Nat.reduceMod, Int.reduceEq, Int.reduceLT, Int.reduceLE, Int.reduceToNat, dite_true]
    intro b3 F3 hF3 hb3
    have hone : Strs F3 (.slice (some ⟨b3, 0, none⟩) 1 1) [a.name] := strs_blk (l := [a.name]) hb3 one_max
    refine CallV.row (less F3 _ _ _ _ (Strs.mono ⟨p2, c2, rfl, k1, k2, k3⟩ hF3) hone (Nat.le_trans (within_len _) hb)) ?_
    intro v4 F4 r hF4 hrow
    simp only [push_cast, ↓reduceIte, Nat.reduceEqDiff, Nat.reduceAdd, Nat.reduceMul, Nat.reduceSub, Nat.reduceLT, Nat.reduceLeDiff, reduceCtorEq, Nat.reduceMod, Int.reduceEq, Int.reduceLT, Int.reduceLE, Int.reduceToNat, dite_true]
    exact ⟨_, [r], rfl, RetR.refl _, r, rfl, by rw [hL, if_neg g1, if_pos g2]; exact hrow⟩
  · simp only [push_cast, ↓reduceIte, Nat.reduceEqDiff, Nat.reduceAdd, Nat.reduceMul, Nat.reduceSub, Nat.reduceLT, Nat.reduceLeDiff, reduceCtorEq, Nat.reduceMod, Int.reduceEq, Int.reduceLT, Int.reduceLE, Int.reduceToNat, dite_true, g1, g2]
    intro b
    refine CallV.row (hW F _ _ _ _ h) ?_
    intro v2 F2 r hF2 hrow
    simp only [push_cast, ↓reduceIte, Nat.reduceEqDiff, Nat.reduceAdd, Nat.reduceMul, Nat.reduceSub, Nat.reduceLT, Nat.reduceLeDiff, reduceCtorEq, Nat.reduceMod, Int.reduceEq, Int.reduceLT, Int.reduceLE, Int.reduceToNat, dite_true, g1, g2]
    exact ⟨_, [r], rfl, RetR.refl _, r, rfl, by rw [hL, if_neg g1, if_neg g2]; exact hrow⟩
theorem sizeEs_mem {e : Exp} : ∀ {l : List Exp}, e ∈ l → e.size ≤ sizeEs l
  | a :: l, h => by
    simp only [sizeEs]
    rcases List.mem_cons.1 h with rfl | h
    · omega
    · have := sizeEs_mem h; omega
theorem sizeBs_mem {e : Bind} : ∀ {l : List Bind}, e ∈ l → e.size ≤ sizeBs l
  | a :: l, h => by
    simp only [sizeBs]
    rcases List.mem_cons.1 h with rfl | h
    · omega
    · have := sizeBs_mem h; omega
theorem sizeLs_mem {e : Alt} : ∀ {l : List Alt}, e ∈ l → e.size ≤ sizeLs l
  | a :: l, h => by
    simp only [sizeLs]
    rcases List.mem_cons.1 h with rfl | h
    · omega
    · have := sizeLs_mem h; omega
theorem sizeBs_count : ∀ l : List Bind, l.length ≤ sizeBs l
  | [] => by simp
  | a :: l => by
    have := sizeBs_count l
    cases a
    simp only [sizeBs, Bind.size, List.length_cons]; omega
theorem sizeBs_take : ∀ (l : List Bind) (k : Nat), sizeBs (l.take k) ≤ sizeBs l
  | [], k => by simp
  | a :: l, 0 => by simp [sizeBs]
  | a :: l, k + 1 => by
    have := sizeBs_take l k
    simp only [List.take_succ_cons, sizeBs]; omega
theorem sizeLs_take : ∀ (l : List Alt) (k : Nat), sizeLs (l.take k) ≤ sizeLs l
  | [], k => by simp
  | a :: l, 0 => by simp [sizeLs]
  | a :: l, k + 1 => by
    have := sizeLs_take l k
    simp only [List.take_succ_cons, sizeLs]; omega
theorem size_eq (e : Exp) : e.size = e.name.size + 1 + sizeA e.atoms + sizeBs e.binds + sizeEs e.kids + sizeLs e.alts := by cases e; rfl
theorem bsize_eq (e : Bind) : e.size = e.name.size + 1 + sizeS e.args + e.body.size := by cases e; rfl
theorem asize_eq (e : Alt) : e.size = e.name.size + 1 + sizeS e.vars + e.body.size := by cases e; rfl
/-- What 'once' is asked of. -/
def inner (e : Exp) : List ByteArray := if e.kind = 1 then lessL [e.name] [⟨#[]⟩] ++ atomsL e.atoms else if e.kind = 2 ∨ e.kind = 3 then atomsL e.atoms else if e.kind = 5 then lessL (withinBs e.binds ++ withinKid e.kids) (e.binds.map Bind.name) else if e.kind = 6 then withinKid e.kids ++ withinLs e.alts else []
theorem within_eq (e : Exp) : within e = onceL (inner e) := by cases e; rfl
theorem inner_len (e : Exp) : (inner e).length ≤ e.size := by
  have h1 := lessL_length [e.name] [⟨#[]⟩]
  have h2 := atomsL_length e.atoms
  have h3 := sizeA_len e.atoms
  have h4 := withinBs_len e.binds
  have h5 := withinKid_len e.kids
  have h6 := withinLs_len e.alts
  have h7 := lessL_length (withinBs e.binds ++ withinKid e.kids) (e.binds.map Bind.name)
  simp only [List.length_append, List.length_cons, List.length_nil] at h1 h7
  rw [size_eq]
  unfold inner
  split
  · simp only [List.length_append]; omega
  split
  · omega
  split
  · omega
  split
  · simp only [List.length_append]; omega
  · simp
set_option maxHeartbeats 400000 in
theorem within_ok (e : Exp) (ih : ∀ e' : Exp, e'.size < e.size → WithinOk e') (hb : e.size ≤ 100000000) : WithinOk e := by
  intro F va vb ve vl h
  have hX := h
  have hsz := size_eq e
  have hal := sizeA_len e.atoms
  have hbinds := h.binds
  have halts := h.alts
  obtain ⟨pa, ca, pb, cb, pe, ce, pl, cl, rfl, rfl, rfl, rfl⟩ := h.slices
  obtain ⟨_, _, eb, hb1, hb2⟩ := hbinds.val
  cases eb
  obtain ⟨_, _, el, hl1, hl2⟩ := halts.val
  cases el
  have hkid : ∀ k ∈ e.kids, WithinOk k := fun k hk => ih k (by have := sizeEs_mem hk; omega)
  refine Fn.intro (n := 70) (ts := [2]) Tryd.func115 rfl rfl rfl rfl (by simp) fun B hB => VC.emp ?_
  refine VC.go 7 ?_
  simp only [push_cast, ↓reduceIte, Nat.reduceEqDiff, Nat.reduceAdd, Nat.reduceMul, Nat.reduceSub, Nat.reduceLT, Nat.reduceLeDiff, reduceCtorEq, Nat.reduceMod, Int.reduceEq, Int.reduceLT, Int.reduceLE, Int.reduceToNat, dite_true]
  intro bb
  refine VC.cutP (ι := Value × PH × PH) (fun i => [(3, .v i.1)]) (fun i => i.2.1) (fun i => [i.2.2]) (fun i => F.le i.2.1 ∧ Row i.2.2 9 1 i.1 ((inner e).map .string)) (fun G hG => ?_) ?_
  case refine_2 =>
    rintro ⟨v, F1, r⟩ ⟨hF1, hrow⟩
    dsimp only at hF1 hrow ⊢
    refine VC.freezeR (List.Perm.refl _) fun F2 hF2 hr2 => ?_
    refine VC.go 100 ?_
    simp only [push_cast, ↓reduceIte, Nat.reduceEqDiff, Nat.reduceAdd, Nat.reduceMul, Nat.reduceSub, Nat.reduceLT, Nat.reduceLeDiff, reduceCtorEq, Nat.reduceMod, Int.reduceEq, Int.reduceLT, Int.reduceLE, Int.reduceToNat, dite_true]
    refine CallV.row (once F2 v (inner e) (Row.strs hrow hr2) (Nat.le_trans (inner_len e) hb)) ?_
    intro v3 F3 r3 hF3 hrow3
    simp only [push_cast, ↓reduceIte, Nat.reduceEqDiff, Nat.reduceAdd, Nat.reduceMul, Nat.reduceSub, Nat.reduceLT, Nat.reduceLeDiff, reduceCtorEq, Nat.reduceMod, Int.reduceEq, Int.reduceLT, Int.reduceLE, Int.reduceToNat, dite_true]
    exact ⟨_, [r3], rfl, RetR.refl _, r3, rfl, by rw [within_eq]; exact hrow3⟩
  refine VC.go 100 ?_
  by_cases g1 : e.kind = 1
  · have hin : inner e = lessL [e.name] [⟨#[]⟩] ++ atomsL e.atoms := if_pos g1
    simp only [push_cast, ↓reduceIte, Nat.reduceEqDiff, Nat.reduceAdd, Nat.reduceMul, Nat.reduceSub, Nat.reduceLT, Nat.reduceLeDiff, reduceCtorEq, Nat.reduceMod, Int.reduceEq, Int.reduceLT, Int.reduceLE, Int.reduceToNat, dite_true, eq_true g1]
    refine VC.draw (.q 0 (.q 1 (.q 5 (.e2 2 (.e 3 (.e 4 (.e 6 (.e 7 (.q 8 (.done)))))) 3 (.e 2 (.e 4 (.e 6 (.e 7 (.q 8 (.done)))))))))) mixed (by rfl) ?_
    simp only [push_cast, ↓reduceIte, Nat.reduceEqDiff, Nat.reduceAdd, Nat.reduceMul, Nat.reduceSub, Nat.reduceLT, Nat.reduceLeDiff, reduceCtorEq, Nat.reduceMod, Int.reduceEq, Int.reduceLT, Int.reduceLE, Int.reduceToNat, dite_true]
    refine ⟨fun b F1 hF1 hb1 b2 F2 hF2 hb2 => ?_, fun b2 F1 hF1 hb2 b F2 hF2 hb1 => ?_⟩
    case refine_1 =>
      have hone : Strs F2 (.slice (some ⟨b, 0, none⟩) 1 1) [e.name] := (strs_blk (l := [e.name]) hb1 one_max).mono hF2
      have htwo : Strs F2 (.slice (some ⟨b2, 0, none⟩) 1 1) [⟨#[]⟩] := strs_blk (l := [⟨#[]⟩]) hb2 one_max
      refine CallV.row (less F2 _ _ _ _ hone htwo (by simp)) ?_
      intro v3 F3 r3 hF3 hrow3
      simp only [push_cast, ↓reduceIte, Nat.reduceEqDiff, Nat.reduceAdd, Nat.reduceMul, Nat.reduceSub, Nat.reduceLT, Nat.reduceLeDiff, reduceCtorEq, Nat.reduceMod, Int.reduceEq, Int.reduceLT, Int.reduceLE, Int.reduceToNat, dite_true]
      refine CallV.sl (atoms F3 e _ _ _ _ (hX.mono (PH.le_trans hF1 (PH.le_trans hF2 hF3))) (by omega)) ?_
      intro v4 F4 m hF4 hm hv4
      obtain ⟨p4, c4, rfl, _, _, hs4⟩ := sl_strs hm hv4
      simp only [push_cast, ↓reduceIte, Nat.reduceEqDiff, Nat.reduceAdd, Nat.reduceMul, Nat.reduceSub, Nat.reduceLT, Nat.reduceLeDiff, reduceCtorEq, Nat.reduceMod, Int.reduceEq, Int.reduceLT, Int.reduceLE, Int.reduceToNat, dite_true]
      refine Eff.append (xs := (lessL [e.name] [⟨#[]⟩]).map .string) (ys := (atomsL e.atoms).map .string) rfl rfl rfl ty44 rfl ty9 rfl (by decide) rfl rfl (List.Perm.refl _) hrow3 hs4 (by simp [Value.oneCell']) ?_ (by decide) ?_
      · have h1 := lessL_length [e.name] [⟨#[]⟩]
        have h2 := atomsL_length e.atoms
        simp only [List.length_map, List.length_cons, List.length_nil] at h1 h2 ⊢
        omega
      intro v' r' hrow'
      simp only [push_cast, ↓reduceIte, Nat.reduceEqDiff, Nat.reduceAdd, Nat.reduceMul, Nat.reduceSub, Nat.reduceLT, Nat.reduceLeDiff, reduceCtorEq, Nat.reduceMod, Int.reduceEq, Int.reduceLT, Int.reduceLE, Int.reduceToNat, dite_true]
      refine VC.go 100 ?_
      simp only [push_cast, ↓reduceIte, Nat.reduceEqDiff, Nat.reduceAdd, Nat.reduceMul, Nat.reduceSub, Nat.reduceLT, Nat.reduceLeDiff, reduceCtorEq, Nat.reduceMod, Int.reduceEq, Int.reduceLT, Int.reduceLE, Int.reduceToNat, dite_true]
      exact hG (v', F4, r') _ ⟨PH.le_trans hF1 (PH.le_trans hF2 (PH.le_trans hF3 hF4)), by rw [hin, List.map_append]; exact hrow'⟩ (by simp [subk, Eng.look]) (List.Sublist.refl _) rfl ⟨[_], by simp, .refl _⟩
    case refine_2 =>
      have hone : Strs F2 (.slice (some ⟨b, 0, none⟩) 1 1) [e.name] := strs_blk (l := [e.name]) hb1 one_max
      have htwo : Strs F2 (.slice (some ⟨b2, 0, none⟩) 1 1) [⟨#[]⟩] := (strs_blk (l := [⟨#[]⟩]) hb2 one_max).mono hF2
      refine CallV.row (less F2 _ _ _ _ hone htwo (by simp)) ?_
      intro v3 F3 r3 hF3 hrow3
      simp only [push_cast, ↓reduceIte, Nat.reduceEqDiff, Nat.reduceAdd, Nat.reduceMul, Nat.reduceSub, Nat.reduceLT, Nat.reduceLeDiff, reduceCtorEq, Nat.reduceMod, Int.reduceEq, Int.reduceLT, Int.reduceLE, Int.reduceToNat, dite_true]
      refine CallV.sl (atoms F3 e _ _ _ _ (hX.mono (PH.le_trans hF1 (PH.le_trans hF2 hF3))) (by omega)) ?_
      intro v4 F4 m hF4 hm hv4
      obtain ⟨p4, c4, rfl, _, _, hs4⟩ := sl_strs hm hv4
      simp only [push_cast, ↓reduceIte, Nat.reduceEqDiff, Nat.reduceAdd, Nat.reduceMul, Nat.reduceSub, Nat.reduceLT, Nat.reduceLeDiff, reduceCtorEq, Nat.reduceMod, Int.reduceEq, Int.reduceLT, Int.reduceLE, Int.reduceToNat, dite_true]
      refine Eff.append (xs := (lessL [e.name] [⟨#[]⟩]).map .string) (ys := (atomsL e.atoms).map .string) rfl rfl rfl ty44 rfl ty9 rfl (by decide) rfl rfl (List.Perm.refl _) hrow3 hs4 (by simp [Value.oneCell']) ?_ (by decide) ?_
      · have h1 := lessL_length [e.name] [⟨#[]⟩]
        have h2 := atomsL_length e.atoms
        simp only [List.length_map, List.length_cons, List.length_nil] at h1 h2 ⊢
        omega
      intro v' r' hrow'
      simp only [push_cast, ↓reduceIte, Nat.reduceEqDiff, Nat.reduceAdd, Nat.reduceMul, Nat.reduceSub, Nat.reduceLT, Nat.reduceLeDiff, reduceCtorEq, Nat.reduceMod, Int.reduceEq, Int.reduceLT, Int.reduceLE, Int.reduceToNat, dite_true]
      refine VC.go 100 ?_
      simp only [push_cast, ↓reduceIte, Nat.reduceEqDiff, Nat.reduceAdd, Nat.reduceMul, Nat.reduceSub, Nat.reduceLT, Nat.reduceLeDiff, reduceCtorEq, Nat.reduceMod, Int.reduceEq, Int.reduceLT, Int.reduceLE, Int.reduceToNat, dite_true]
      exact hG (v', F4, r') _ ⟨PH.le_trans hF1 (PH.le_trans hF2 (PH.le_trans hF3 hF4)), by rw [hin, List.map_append]; exact hrow'⟩ (by simp [subk, Eng.look]) (List.Sublist.refl _) rfl ⟨[_], by simp, .refl _⟩
  by_cases g2 : e.kind = 2
  · have hin : inner e = atomsL e.atoms := by unfold inner; rw [if_neg g1, if_pos (.inl g2)]
    simp only [push_cast, ↓reduceIte, Nat.reduceEqDiff, Nat.reduceAdd, Nat.reduceMul, Nat.reduceSub, Nat.reduceLT, Nat.reduceLeDiff, reduceCtorEq, Nat.reduceMod, Int.reduceEq, Int.reduceLT, Int.reduceLE, Int.reduceToNat, dite_true, g1, eq_true g2]
    refine CallV.row (atoms F e _ _ _ _ hX (by omega)) ?_
    intro v3 F3 r3 hF3 hrow3
    simp only [push_cast, ↓reduceIte, Nat.reduceEqDiff, Nat.reduceAdd, Nat.reduceMul, Nat.reduceSub, Nat.reduceLT, Nat.reduceLeDiff, reduceCtorEq, Nat.reduceMod, Int.reduceEq, Int.reduceLT, Int.reduceLE, Int.reduceToNat, dite_true]
    exact hG (v3, F3, r3) _ ⟨hF3, by rw [hin]; exact hrow3⟩ (by simp [subk, Eng.look]) (List.Sublist.refl _) rfl ⟨[_], by simp, .refl _⟩
  by_cases g3 : e.kind = 3
  · have hin : inner e = atomsL e.atoms := by unfold inner; rw [if_neg g1, if_pos (.inr g3)]
    simp only [push_cast, ↓reduceIte, Nat.reduceEqDiff, Nat.reduceAdd, Nat.reduceMul, Nat.reduceSub, Nat.reduceLT, Nat.reduceLeDiff, reduceCtorEq, Nat.reduceMod, Int.reduceEq, Int.reduceLT, Int.reduceLE, Int.reduceToNat, dite_true, g1, g2, eq_true g3]
    refine CallV.row (atoms F e _ _ _ _ hX (by omega)) ?_
    intro v3 F3 r3 hF3 hrow3
    simp only [push_cast, ↓reduceIte, Nat.reduceEqDiff, Nat.reduceAdd, Nat.reduceMul, Nat.reduceSub, Nat.reduceLT, Nat.reduceLeDiff, reduceCtorEq, Nat.reduceMod, Int.reduceEq, Int.reduceLT, Int.reduceLE, Int.reduceToNat, dite_true]
    exact hG (v3, F3, r3) _ ⟨hF3, by rw [hin]; exact hrow3⟩ (by simp [subk, Eng.look]) (List.Sublist.refl _) rfl ⟨[_], by simp, .refl _⟩
  by_cases g5 : e.kind = 5
  · have hin : inner e = lessL (withinBs e.binds ++ withinKid e.kids) (e.binds.map Bind.name) := by unfold inner; rw [if_neg g1, if_neg (by omega), if_pos g5]
    have hbl := withinBs_len e.binds
    have hkl := withinKid_len e.kids
    have hbn : e.binds.length ≤ sizeBs e.binds := sizeBs_count e.binds
    simp only [push_cast, ↓reduceIte, Nat.reduceEqDiff, Nat.reduceAdd, Nat.reduceMul, Nat.reduceSub, Nat.reduceLT, Nat.reduceLeDiff, reduceCtorEq, Nat.reduceMod, Int.reduceEq, Int.reduceLT, Int.reduceLE, Int.reduceToNat, dite_true, g1, g2, g3, eq_true g5]
    refine VC.emp ?_
    refine VC.loopP (ι := Nat × (Value × Value) × PH × PH × PH) (fun i => [(31, .v (.int .i64 i.1)), (30, .v (.int .i64 e.binds.length)), (29, .v (.slice pb e.binds.length cb)), (3, .v i.2.1.1), (4, .v i.2.1.2), (1, .o 0 bb 0)]) (fun i => i.2.2.1) (fun i => [i.2.2.2.1, i.2.2.2.2]) (fun i => i.1 ≤ e.binds.length ∧ F.le i.2.2.1 ∧ Row i.2.2.2.1 9 1 i.2.1.1 ((withinBs (e.binds.take i.1)).map .string) ∧ Row i.2.2.2.2 9 1 i.2.1.2 (((e.binds.take i.1).map Bind.name).map .string)) (fun i => e.binds.length - i.1) (0, (.slice none 0 0, .slice none 0 0), F, PH.emp, PH.emp) ⟨Nat.zero_le _, PH.le_refl _, Row.nil _ _, Row.nil _ _⟩ (by simp [subk, Eng.look]) rfl (subR_refl _) ?_
    rintro ⟨k, ⟨v3, v4⟩, F1, r3, r4⟩ ⟨hk, hF1, hr3, hr4⟩ G2 hG2
    dsimp only at hk hF1 hr3 hr4 hG2 ⊢
    refine VC.go 100 ?_
    by_cases hlt : k < e.binds.length
    case neg =>
      have h' : ¬ (k : Int) < (e.binds.length : Int) := by omega
      rw [List.take_of_length_le (by omega)] at hr3 hr4
      simp only [push_cast, ↓reduceIte, Nat.reduceEqDiff, Nat.reduceAdd, Nat.reduceMul, Nat.reduceSub, Nat.reduceLT, Nat.reduceLeDiff, reduceCtorEq, Nat.reduceMod, Int.reduceEq, Int.reduceLT, Int.reduceLE, Int.reduceToNat, dite_true, h']
      refine CallV.sl (kid F1 e _ _ _ _ (hX.mono hF1) hkid) ?_
      intro v5 F2 m hF2 hm hv5
      obtain ⟨p5, c5, rfl, _, _, hs5⟩ := sl_strs hm hv5
      simp only [push_cast, ↓reduceIte, Nat.reduceEqDiff, Nat.reduceAdd, Nat.reduceMul, Nat.reduceSub, Nat.reduceLT, Nat.reduceLeDiff, reduceCtorEq, Nat.reduceMod, Int.reduceEq, Int.reduceLT, Int.reduceLE, Int.reduceToNat, dite_true]
      refine Eff.append (xs := (withinBs e.binds).map .string) (ys := (withinKid e.kids).map .string) rfl rfl rfl ty44 rfl ty9 rfl (by decide) rfl rfl (List.Perm.refl _) hr3 hs5 (by simp [Value.oneCell']) (by simp only [List.length_map]; omega) (by decide) ?_
      intro v6 r6 hr6
      rw [← List.map_append] at hr6
      simp only [push_cast, ↓reduceIte, Nat.reduceEqDiff, Nat.reduceAdd, Nat.reduceMul, Nat.reduceSub, Nat.reduceLT, Nat.reduceLeDiff, reduceCtorEq, Nat.reduceMod, Int.reduceEq, Int.reduceLT, Int.reduceLE, Int.reduceToNat, dite_true]
      refine CallV.lend2 (r := r6) (r2 := r4) (Rf := []) (List.Perm.refl _) (less F2 _ _ [] [] ⟨none, 0, rfl, Nat.le_refl _, Nat.zero_le _, rfl, fun h => absurd h (by simp)⟩ ⟨none, 0, rfl, Nat.le_refl _, Nat.zero_le _, rfl, fun h => absurd h (by simp)⟩ (by simp)).1 (fun hd1 hd2 => less _ _ _ (withinBs e.binds ++ withinKid e.kids) (e.binds.map Bind.name) ((Row.strs hr6 (PH.or_right hd1)).mono (PH.or_left _ _)) (Row.strs hr4 (PH.or_right hd2)) (by simp only [List.length_append]; omega)) ?_
      intro v7 F3 r7 hF3 hr7
      simp only [push_cast, ↓reduceIte, Nat.reduceEqDiff, Nat.reduceAdd, Nat.reduceMul, Nat.reduceSub, Nat.reduceLT, Nat.reduceLeDiff, reduceCtorEq, Nat.reduceMod, Int.reduceEq, Int.reduceLT, Int.reduceLE, Int.reduceToNat, dite_true]
      exact hG (v7, F3, r7) _ ⟨PH.le_trans hF1 (PH.le_trans hF2 hF3), by rw [hin]; exact hr7⟩ (by simp [subk, Eng.look]) (List.Sublist.refl _) rfl ⟨[_], by simp, .refl _⟩
    have h' : (k : Int) < (e.binds.length : Int) := by omega
    have h0 : (0 : Int) ≤ (k : Int) := by omega
    have e2 : IntKind.i64.wrap ((k : Int) + 1) = ((k + 1 : Nat) : Int) := wrap_add k hlt (Nat.le_trans hb1 hb2)
    obtain ⟨q, _, cs, eq, _, _, kl, kr⟩ := (hbinds.mono (R' := RBind F1) hF1 (fun _ _ _ h => h.mono hF1)).elem (by decide) (i := k) (a := e.binds[k]) (List.getElem?_eq_getElem hlt) (fun _ _ h => h.len)
    cases eq
    have hmem : e.binds[k] ∈ e.binds := List.getElem_mem hlt
    have hsm := sizeBs_mem hmem
    have hse := bsize_eq e.binds[k]
    have ht : e.binds.take (k + 1) = e.binds.take k ++ [e.binds[k]] := List.take_succ_eq_append_getElem hlt
    have hwb : withinB e.binds[k] = lessL (within (e.binds[k]).body) (e.binds[k]).args := by cases e.binds[k]; rfl
    have hbt := withinBs_len (e.binds.take k)
    have hbt2 : sizeBs (e.binds.take k) ≤ sizeBs e.binds := sizeBs_take e.binds k
    generalize hbk : e.binds[k] = b at *
    obtain ⟨va, c, rfl, hva, hvc⟩ := RBind_iff.1 kr
    obtain ⟨wa, wb, we, wl, rfl, wx⟩ := RExp_iff.1 hvc
    have hva' := hva
    obtain ⟨pv, cv, rfl, _, _, _⟩ := hva
    obtain ⟨_, _, _, _, _, _, _, _, rfl, rfl, rfl, rfl⟩ := wx.slices
    simp only [push_cast, ↓reduceIte, Nat.reduceEqDiff, Nat.reduceAdd, Nat.reduceMul, Nat.reduceSub, Nat.reduceLT, Nat.reduceLeDiff, reduceCtorEq, Nat.reduceMod, Int.reduceEq, Int.reduceLT, Int.reduceLE, Int.reduceToNat, dite_true, h', h0, kl]
    intro b6
    refine CallV.sl (free F1 (b.args, b.body) _ _ _ _ _ hva' wx (ih b.body (by omega)) (show b.body.size ≤ 100000000 by omega)) ?_
    intro v5 F2 m hF2 hm hv5
    obtain ⟨p5, c5, rfl, _, _, hs5⟩ := sl_strs hm hv5
    simp only [push_cast, ↓reduceIte, Nat.reduceEqDiff, Nat.reduceAdd, Nat.reduceMul, Nat.reduceSub, Nat.reduceLT, Nat.reduceLeDiff, reduceCtorEq, Nat.reduceMod, Int.reduceEq, Int.reduceLT, Int.reduceLE, Int.reduceToNat, dite_true]
    refine Eff.append (xs := (withinBs (e.binds.take k)).map .string) (ys := (lessL (within b.body) b.args).map .string) rfl rfl rfl ty44 rfl ty9 rfl (by decide) rfl rfl (List.Perm.refl _) hr3 hs5 (by simp [Value.oneCell']) (by
      have h1 := lessL_length (within b.body) b.args
      have h2 := within_len b.body
      simp only [List.length_map]; omega) (by decide) ?_
    intro v6 r6 hr6
    simp only [push_cast, ↓reduceIte, Nat.reduceEqDiff, Nat.reduceAdd, Nat.reduceMul, Nat.reduceSub, Nat.reduceLT, Nat.reduceLeDiff, reduceCtorEq, Nat.reduceMod, Int.reduceEq, Int.reduceLT, Int.reduceLE, Int.reduceToNat, dite_true]
    intro b7 F3 hF3 hb7
    refine Eff.append (xs := ((e.binds.take k).map Bind.name).map .string) (ys := [.string b.name]) (r := r4) (Rf := [r6]) rfl rfl rfl ty44 rfl ty9 rfl (by decide) rfl rfl (.swap _ _ _) hr4 (Src.blk hb7 rfl) (by simp [Value.oneCell']) (by simp only [List.length_map, List.length_take, List.length_cons, List.length_nil]; omega) (by decide) ?_
    intro v8 r8 hr8
    simp only [push_cast, ↓reduceIte, Nat.reduceEqDiff, Nat.reduceAdd, Nat.reduceMul, Nat.reduceSub, Nat.reduceLT, Nat.reduceLeDiff, reduceCtorEq, Nat.reduceMod, Int.reduceEq, Int.reduceLT, Int.reduceLE, Int.reduceToNat, dite_true, e2]
    refine hG2 (k + 1, (v6, v8), F3, r6, r8) _ ⟨by omega, PH.le_trans hF1 (PH.le_trans hF2 hF3), ?_, ?_⟩ (by simp; omega) (by simp [subk, Eng.look]) (by simp) rfl ⟨_, List.Sublist.refl _, .swap _ _ _⟩
    · rw [ht, withinBs_flat, List.flatMap_append, ← withinBs_flat, List.map_append]; simpa [hwb] using hr6
    · rw [ht, List.map_append, List.map_append]; exact hr8
  by_cases g6 : e.kind = 6
  · have hin : inner e = withinKid e.kids ++ withinLs e.alts := by unfold inner; rw [if_neg g1, if_neg (by omega), if_neg g5, if_pos g6]
    have hkl := withinKid_len e.kids
    simp only [push_cast, ↓reduceIte, Nat.reduceEqDiff, Nat.reduceAdd, Nat.reduceMul, Nat.reduceSub, Nat.reduceLT, Nat.reduceLeDiff, reduceCtorEq, Nat.reduceMod, Int.reduceEq, Int.reduceLT, Int.reduceLE, Int.reduceToNat, dite_true, g1, g2, g3, g5, eq_true g6]
    refine CallV.row (kid F e _ _ _ _ hX hkid) ?_
    intro v3 F1 r3 hF1 hr3
    simp only [push_cast, ↓reduceIte, Nat.reduceEqDiff, Nat.reduceAdd, Nat.reduceMul, Nat.reduceSub, Nat.reduceLT, Nat.reduceLeDiff, reduceCtorEq, Nat.reduceMod, Int.reduceEq, Int.reduceLT, Int.reduceLE, Int.reduceToNat, dite_true]
    refine VC.loopP (ι := Nat × Value × PH × PH) (fun i => [(59, .v (.int .i64 i.1)), (58, .v (.int .i64 e.alts.length)), (57, .v (.slice pl e.alts.length cl)), (3, .v i.2.1)]) (fun i => i.2.2.1) (fun i => [i.2.2.2]) (fun i => i.1 ≤ e.alts.length ∧ F.le i.2.2.1 ∧ Row i.2.2.2 9 1 i.2.1 ((withinKid e.kids ++ withinLs (e.alts.take i.1)).map .string)) (fun i => e.alts.length - i.1) (0, v3, F1, r3) ⟨Nat.zero_le _, hF1, by simpa [withinLs] using hr3⟩ (by simp [subk, Eng.look]) rfl ⟨[_], by simp, .refl _⟩ ?_
    rintro ⟨k, v4, F2, r4⟩ ⟨hk, hF2, hr4⟩ G2 hG2
    dsimp only at hk hF2 hr4 hG2 ⊢
    refine VC.go 100 ?_
    by_cases hlt : k < e.alts.length
    case neg =>
      have h' : ¬ (k : Int) < (e.alts.length : Int) := by omega
      rw [List.take_of_length_le (by omega)] at hr4
      simp only [push_cast, ↓reduceIte, Nat.reduceEqDiff, Nat.reduceAdd, Nat.reduceMul, Nat.reduceSub, Nat.reduceLT, Nat.reduceLeDiff, reduceCtorEq, Nat.reduceMod, Int.reduceEq, Int.reduceLT, Int.reduceLE, Int.reduceToNat, dite_true, h']
      exact hG (v4, F2, r4) _ ⟨hF2, by rw [hin]; exact hr4⟩ (by simp [subk, Eng.look]) (List.Sublist.refl _) rfl (subR_refl _)
    have h' : (k : Int) < (e.alts.length : Int) := by omega
    have h0 : (0 : Int) ≤ (k : Int) := by omega
    have e2 : IntKind.i64.wrap ((k : Int) + 1) = ((k + 1 : Nat) : Int) := wrap_add k hlt (Nat.le_trans hl1 hl2)
    obtain ⟨q, _, cs, eq, _, _, kl, kr⟩ := (halts.mono (R' := RAlt F2) hF2 (fun _ _ _ h => h.mono hF2)).elem (by decide) (i := k) (a := e.alts[k]) (List.getElem?_eq_getElem hlt) (fun _ _ h => h.len)
    cases eq
    have hmem : e.alts[k] ∈ e.alts := List.getElem_mem hlt
    have hsm := sizeLs_mem hmem
    have hse := asize_eq e.alts[k]
    have ht : e.alts.take (k + 1) = e.alts.take k ++ [e.alts[k]] := List.take_succ_eq_append_getElem hlt
    have hbt := withinLs_len (e.alts.take k)
    have hbt2 : sizeLs (e.alts.take k) ≤ sizeLs e.alts := sizeLs_take e.alts k
    generalize hbk : e.alts[k] = b at *
    have hwl := withinL_len b
    obtain ⟨va, c, rfl, hva, hvc⟩ := RAlt_iff.1 kr
    obtain ⟨wa, wb, we, wl, rfl, wx⟩ := RExp_iff.1 hvc
    have hva' := hva
    obtain ⟨pv, cv, rfl, _, _, _⟩ := hva
    obtain ⟨_, _, _, _, _, _, _, _, rfl, rfl, rfl, rfl⟩ := wx.slices
    simp only [push_cast, ↓reduceIte, Nat.reduceEqDiff, Nat.reduceAdd, Nat.reduceMul, Nat.reduceSub, Nat.reduceLT, Nat.reduceLeDiff, reduceCtorEq, Nat.reduceMod, Int.reduceEq, Int.reduceLT, Int.reduceLE, Int.reduceToNat, dite_true, h', h0, kl]
    intro b6
    refine CallV.sl (bound F2 b _ _ _ _ _ hva' wx (ih b.body (by omega)) (show b.body.size ≤ 100000000 by omega)) ?_
    intro v5 F3 m hF3 hm hv5
    obtain ⟨p5, c5, rfl, _, _, hs5⟩ := sl_strs hm hv5
    simp only [push_cast, ↓reduceIte, Nat.reduceEqDiff, Nat.reduceAdd, Nat.reduceMul, Nat.reduceSub, Nat.reduceLT, Nat.reduceLeDiff, reduceCtorEq, Nat.reduceMod, Int.reduceEq, Int.reduceLT, Int.reduceLE, Int.reduceToNat, dite_true]
    refine Eff.append (xs := (withinKid e.kids ++ withinLs (e.alts.take k)).map .string) (ys := (withinL b).map .string) rfl rfl rfl ty44 rfl ty9 rfl (by decide) rfl rfl (List.Perm.refl _) hr4 hs5 (by simp [Value.oneCell']) (by
      simp only [List.length_map, List.length_append]; omega) (by decide) ?_
    intro v6 r6 hr6
    simp only [push_cast, ↓reduceIte, Nat.reduceEqDiff, Nat.reduceAdd, Nat.reduceMul, Nat.reduceSub, Nat.reduceLT, Nat.reduceLeDiff, reduceCtorEq, Nat.reduceMod, Int.reduceEq, Int.reduceLT, Int.reduceLE, Int.reduceToNat, dite_true, e2]
    refine hG2 (k + 1, v6, F3, r6) _ ⟨by omega, PH.le_trans hF2 hF3, ?_⟩ (by simp; omega) (by simp [subk, Eng.look]) (by simp) rfl (subR_refl _)
    rw [ht, withinLs_flat, List.flatMap_append, ← withinLs_flat, ← List.append_assoc, List.map_append]; simpa using hr6
  · have hin : inner e = [] := by unfold inner; rw [if_neg g1, if_neg (by omega), if_neg g5, if_neg g6]
    simp only [push_cast, ↓reduceIte, Nat.reduceEqDiff, Nat.reduceAdd, Nat.reduceMul, Nat.reduceSub, Nat.reduceLT, Nat.reduceLeDiff, reduceCtorEq, Nat.reduceMod, Int.reduceEq, Int.reduceLT, Int.reduceLE, Int.reduceToNat, dite_true, g1, g2, g3, g5, g6]
    exact hG (.slice none 0 0, F, PH.emp) _ ⟨PH.le_refl _, by rw [hin]; exact Row.nil _ _⟩ (by simp [subk, Eng.look]) (List.Sublist.refl _) rfl (subR_refl _)
theorem within_all (n : Nat) : ∀ e : Exp, e.size = n → e.size ≤ 100000000 → WithinOk e := by
  induction n using Nat.strongRecOn with
  | _ n ih =>
    intro e he hb
    exact within_ok e (fun e' h => ih e'.size (by omega) e' rfl (by omega)) hb
def classOf (args : List ByteArray) (x : Exp) : Int :=
  if 0 < (args.length : Int) then 3 else if x.kind = 2 then 1 else if x.kind = 4 then 2 else if (fieldOf args x).2.2.2 = true then 7 else 6
theorem clas (F : PH) (f : List ByteArray × Exp) (v va vb ve vl : Value) (hv : Strs F v f.1) (h : ExpAt F f.2 va vb ve vl) : PFn Tryd.prog 109 [.agg (v :: expCells f.2 va vb ve vl).toArray] F (fun v _ => v = .int .i64 (classOf f.1 f.2)) := by
  have hv' := hv
  obtain ⟨pv, cv, rfl, hv1, hv2, hv3⟩ := hv
  obtain ⟨_, _, _, _, _, _, _, _, rfl, rfl, rfl, rfl⟩ := h.slices
  refine Fn.intro (n := 31) (ts := [2]) Tryd.func109 rfl rfl rfl rfl (by simp) fun B hB => VC.go 100 ?_
  simp only [push_cast, ↓reduceIte, Nat.reduceEqDiff, Nat.reduceAdd, Nat.reduceMul, Nat.reduceSub, Nat.reduceLT, Nat.reduceLeDiff, reduceCtorEq, Nat.reduceMod, Int.reduceEq, Int.reduceLT, Int.reduceLE, Int.reduceToNat, dite_true]
  intro b
  refine CallV.pure (field F f _ _ _ _ _ hv' h) ?_
  rintro _ F1 hF1 rfl
  by_cases g1 : 0 < (f.1.length : Int)
  · simp only [push_cast, ↓reduceIte, Nat.reduceEqDiff, Nat.reduceAdd, Nat.reduceMul, Nat.reduceSub, Nat.reduceLT, Nat.reduceLeDiff, reduceCtorEq, Nat.reduceMod, Int.reduceEq, Int.reduceLT, Int.reduceLE, Int.reduceToNat, dite_true, g1]; exact RetOk.p rfl (by simp only [classOf, if_pos g1]; rfl)
  by_cases g2 : f.2.kind = 2
  · simp only [push_cast, ↓reduceIte, Nat.reduceEqDiff, Nat.reduceAdd, Nat.reduceMul, Nat.reduceSub, Nat.reduceLT, Nat.reduceLeDiff, reduceCtorEq, Nat.reduceMod, Int.reduceEq, Int.reduceLT, Int.reduceLE, Int.reduceToNat, dite_true, g1, g2]; exact RetOk.p rfl (by simp only [classOf, g1, g2, if_true, if_false]; rfl)
  by_cases g3 : f.2.kind = 4
  · simp only [push_cast, ↓reduceIte, Nat.reduceEqDiff, Nat.reduceAdd, Nat.reduceMul, Nat.reduceSub, Nat.reduceLT, Nat.reduceLeDiff, reduceCtorEq, Nat.reduceMod, Int.reduceEq, Int.reduceLT, Int.reduceLE, Int.reduceToNat, dite_true, g1, g2, g3]; exact RetOk.p rfl (by simp only [classOf, g1, g2, g3, if_true, if_false]; rfl)
  by_cases g4 : (fieldOf f.1 f.2).2.2.2 = true
  · simp only [push_cast, ↓reduceIte, Nat.reduceEqDiff, Nat.reduceAdd, Nat.reduceMul, Nat.reduceSub, Nat.reduceLT, Nat.reduceLeDiff, reduceCtorEq, Nat.reduceMod, Int.reduceEq, Int.reduceLT, Int.reduceLE, Int.reduceToNat, dite_true, g1, g2, g3, g4]; exact RetOk.p rfl (by simp only [classOf, g1, g2, g3, g4, if_true, if_false]; rfl)
  · simp only [push_cast, ↓reduceIte, Nat.reduceEqDiff, Nat.reduceAdd, Nat.reduceMul, Nat.reduceSub, Nat.reduceLT, Nat.reduceLeDiff, reduceCtorEq, Nat.reduceMod, Int.reduceEq, Int.reduceLT, Int.reduceLE, Int.reduceToNat, dite_true, g1, g2, g3, g4]; exact RetOk.p rfl (by simp only [classOf, g1, g2, g3, g4, if_true, if_false]; rfl)
end Go.Proofs.YtoepmdbicdoieaaDoor.V
