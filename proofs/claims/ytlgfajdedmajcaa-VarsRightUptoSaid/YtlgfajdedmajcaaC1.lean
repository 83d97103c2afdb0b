/- What is laid for a form: both answers. -/
import Derived.Test.YtlgfajdedmajcaaTy
import Derived.Test.YtlgfajdedmajcaaX1
import Derived.Test.YtlgfajdedmajcaaB3
namespace Go.Proofs.Ytlgfajdedmajcaa.V
open Go Go.Eng Go.Proofs Go.Proofs.Ytlgfajdedmajcaa.T
set_option linter.unusedSimpArgs false
set_option maxRecDepth 100000
def plainB (e : Exp) : Bool := decide (e.kind = 1) && decide ((e.atoms.length : Int) = 0)
theorem plain (F : PH) (e : Exp) (va vb ve vl : Value) (h : ExpAt F e va vb ve vl) : PFn Try.prog 26 [.agg (expCells e va vb ve vl).toArray] F (fun v _ => v = .bool (plainB e)) := by
  obtain ⟨⟨p, c, rfl, h1, h2, h3⟩, _, _, _⟩ := h
  refine Fn.intro (n := 12) (ts := [2]) Try.func26 rfl rfl rfl rfl (by simp) fun B hB => VC.go 100 ?_
  by_cases hk : e.kind = 1
  · simp only [push_cast, ↓reduceIte, Nat.reduceEqDiff, Nat.reduceAdd, Nat.reduceMul, Nat.reduceSub, Nat.reduceLT, Nat.reduceLeDiff, reduceCtorEq, Nat.reduceMod, Int.reduceEq, Int.reduceLT, Int.reduceLE, Int.reduceToNat, dite_true, hk]; intro b; exact RetOk.p rfl (by simp [plainB, hk, rval])
  · simp only [push_cast, ↓reduceIte, Nat.reduceEqDiff, Nat.reduceAdd, Nat.reduceMul, Nat.reduceSub, Nat.reduceLT, Nat.reduceLeDiff, reduceCtorEq, Nat.reduceMod, Int.reduceEq, Int.reduceLT, Int.reduceLE, Int.reduceToNat, dite_true, hk]; intro b; exact RetOk.p rfl (by simp [plainB, hk, rval])
/-- The last of the first n that is this text. -/
def lastAt (l : List ByteArray) (s : ByteArray) : Nat → Int
  | 0 => -1
  | n + 1 => if l[n]? = some s then (n : Int) else lastAt l s n
def picks (args : List ByteArray) (x : Exp) (k : Exp) (a : Alt) : Prop := args.length = 0 ∧ x.kind = 6 ∧ plainB k = true ∧ a.kind = 1 ∧ plainB a.body = true
instance (args : List ByteArray) (x : Exp) (k : Exp) (a : Alt) : Decidable (picks args x k a) := by unfold picks; exact inferInstance
abbrev fld0 : ByteArray × Int × ByteArray × Bool := (⟨#[]⟩, 0, ⟨#[]⟩, false)
def fieldOf (args : List ByteArray) (x : Exp) : ByteArray × Int × ByteArray × Bool :=
  match x.kids, x.alts with
  | k :: _, [a] => if picks args x k a ∧ 0 ≤ lastAt a.vars a.body.name a.vars.length then (a.name, lastAt a.vars a.body.name a.vars.length, k.name, true) else fld0
  | _, _ => fld0
abbrev four (r : ByteArray × Int × ByteArray × Bool) : Value := .tuple #[.string r.1, .int .i64 r.2.1, .string r.2.2.1, .bool r.2.2.2]
theorem fieldOf_no {args : List ByteArray} {x : Exp} (h : args.length ≠ 0 ∨ x.kind ≠ 6 ∨ x.kids.length = 0 ∨ x.alts.length ≠ 1) : fieldOf args x = fld0 := by
  unfold fieldOf
  split
  · rename_i k ks a e1 e2
    rw [if_neg]
    rintro ⟨⟨p1, p2, _⟩, _⟩
    rw [e1, e2] at h
    simp_all
  · rfl
theorem field (F : PH) (f : List ByteArray × Exp) (v va vb ve vl : Value) (hv : Strs F v f.1) (h : ExpAt F f.2 va vb ve vl) : PFn Try.prog 16 [.agg (v :: expCells f.2 va vb ve vl).toArray] F (fun v _ => v = four (fieldOf f.1 f.2)) := by
  have hX := h
  obtain ⟨⟨p1, c1, rfl, h11, h12, h13⟩, hb, hk, hl⟩ := h
  obtain ⟨pb, cb, rfl, hb1, hb2⟩ := hb.val
  obtain ⟨pk, ck, rfl, hk1, hk2⟩ := hk.val
  obtain ⟨pl, cl, rfl, hl1, hl2⟩ := hl.val
  obtain ⟨pv, cv, rfl, hv1, hv2, hv3⟩ := hv
  refine Fn.intro (n := 78) (ts := [2, 3, 4, 5]) Try.func16 rfl rfl rfl rfl (by simp) fun B hB => VC.go 100 ?_
  by_cases g1 : 0 < (f.1.length : Int)
  · simp only [push_cast, ↓reduceIte, Nat.reduceEqDiff, Nat.reduceAdd, Nat.reduceMul, Nat.reduceSub, Nat.reduceLT, Nat.reduceLeDiff, reduceCtorEq, Nat.reduceMod, Int.reduceEq, Int.reduceLT, Int.reduceLE, Int.reduceToNat, dite_true, g1]
    intro b b2
    exact RetOk.p rfl (by rw [fieldOf_no (.inl (by omega))]; rfl)
  by_cases g2 : f.2.kind = 6
  case neg =>
    simp only [push_cast, ↓reduceIte, Nat.reduceEqDiff, Nat.reduceAdd, Nat.reduceMul, Nat.reduceSub, Nat.reduceLT, Nat.reduceLeDiff, reduceCtorEq, Nat.reduceMod, Int.reduceEq, Int.reduceLT, Int.reduceLE, Int.reduceToNat, dite_true, g1, g2]
    intro b b2
    exact RetOk.p rfl (by rw [fieldOf_no (.inr (.inl g2))]; rfl)
  by_cases g3 : (f.2.kids.length : Int) = 0
  · simp only [push_cast, ↓reduceIte, Nat.reduceEqDiff, Nat.reduceAdd, Nat.reduceMul, Nat.reduceSub, Nat.reduceLT, Nat.reduceLeDiff, reduceCtorEq, Nat.reduceMod, Int.reduceEq, Int.reduceLT, Int.reduceLE, Int.reduceToNat, dite_true, g1, g2, g3]
    intro b b2
    exact RetOk.p rfl (by rw [fieldOf_no (.inr (.inr (.inl (by omega))))]; rfl)
  by_cases g4 : (f.2.alts.length : Int) = 1
  case neg =>
    simp only [push_cast, ↓reduceIte, Nat.reduceEqDiff, Nat.reduceAdd, Nat.reduceMul, Nat.reduceSub, Nat.reduceLT, Nat.reduceLeDiff, reduceCtorEq, Nat.reduceMod, Int.reduceEq, Int.reduceLT, Int.reduceLE, Int.reduceToNat, dite_true, g1, g2, g3, g4]
    intro b b2
    exact RetOk.p rfl (by rw [fieldOf_no (.inr (.inr (.inr (by omega))))]; rfl)
  obtain ⟨k, ks, ek⟩ : ∃ k ks, f.2.kids = k :: ks := by cases e : f.2.kids with | nil => rw [e] at g3; exact absurd rfl g3 | cons k ks => exact ⟨k, ks, rfl⟩
  obtain ⟨a, ea⟩ : ∃ a, f.2.alts = [a] := by
    cases e : f.2.alts with
    | nil => rw [e] at g4; exact absurd g4 (by decide)
    | cons a l => cases l with
      | nil => exact ⟨a, rfl⟩
      | cons b l => rw [e] at g4; simp at g4; omega
  obtain ⟨qk, _, kc, ek1, _, _, kl, kr⟩ := hk.elem (by decide) (i := 0) (a := k) (by rw [ek]; rfl) (fun _ _ h => h.len)
  cases ek1
  obtain ⟨ka, kb, ke, kll, rfl, kx⟩ := RExp_iff.1 kr
  have hlt : (0 : Int) < (f.2.kids.length : Int) := by omega
  rw [Nat.zero_mul] at kl
  simp only [push_cast, ↓reduceIte, Nat.reduceEqDiff, Nat.reduceAdd, Nat.reduceMul, Nat.reduceSub, Nat.reduceLT, Nat.reduceLeDiff, reduceCtorEq, Nat.reduceMod, Int.reduceEq, Int.reduceLT, Int.reduceLE, Int.reduceToNat, dite_true, g1, g2, g3, g4, hlt, Nat.zero_mul, kl]
  intro b b2
  refine CallV.pure (plain F k ka kb ke kll kx) ?_
  rintro _ F1 hF1 rfl
  by_cases g5 : plainB k = true
  case neg =>
    have g5' : plainB k = false := by simpa using g5
    simp only [push_cast, ↓reduceIte, Nat.reduceEqDiff, Nat.reduceAdd, Nat.reduceMul, Nat.reduceSub, Nat.reduceLT, Nat.reduceLeDiff, reduceCtorEq, Nat.reduceMod, Int.reduceEq, Int.reduceLT, Int.reduceLE, Int.reduceToNat, dite_true, g5']
    exact RetOk.p rfl (by unfold fieldOf; rw [ek, ea]; simp [picks, g5']; rfl)
  obtain ⟨ql, _, lc, el1, _, _, ll, lr⟩ := hl.elem (by decide) (i := 0) (a := a) (by rw [ea]; rfl) (fun _ _ h => h.len)
  cases el1
  rw [Nat.zero_mul] at ll
  obtain ⟨av, ac, rfl, hav, har⟩ := RAlt_iff.1 lr
  obtain ⟨ba, bb, be, bl, rfl, bx⟩ := RExp_iff.1 har
  obtain ⟨pv', cv', rfl, hv1', hv2', hv3'⟩ := hav
  obtain ⟨_, _, _, _, _, _, _, _, rfl, rfl, rfl, rfl⟩ := bx.slices
  have hlt2 : (0 : Int) < (f.2.alts.length : Int) := by omega
  simp only [push_cast, ↓reduceIte, Nat.reduceEqDiff, Nat.reduceAdd, Nat.reduceMul, Nat.reduceSub, Nat.reduceLT, Nat.reduceLeDiff, reduceCtorEq, Nat.reduceMod, Int.reduceEq, Int.reduceLT, Int.reduceLE, Int.reduceToNat, dite_true, g5, hlt2, Nat.zero_mul, hF1.cells ll]
  intro b3
  by_cases g6 : a.kind = 1
  case neg =>
    simp only [push_cast, ↓reduceIte, Nat.reduceEqDiff, Nat.reduceAdd, Nat.reduceMul, Nat.reduceSub, Nat.reduceLT, Nat.reduceLeDiff, reduceCtorEq, Nat.reduceMod, Int.reduceEq, Int.reduceLT, Int.reduceLE, Int.reduceToNat, dite_true, g6]
    exact RetOk.p rfl (by unfold fieldOf; rw [ek, ea]; simp [picks, g6]; rfl)
  simp only [push_cast, ↓reduceIte, Nat.reduceEqDiff, Nat.reduceAdd, Nat.reduceMul, Nat.reduceSub, Nat.reduceLT, Nat.reduceLeDiff, reduceCtorEq, Nat.reduceMod, Int.reduceEq, Int.reduceLT, Int.reduceLE, Int.reduceToNat, dite_true, g6]
  refine CallV.pure (plain F1 a.body _ _ _ _ (bx.mono hF1)) ?_
  rintro _ F2 hF2 rfl
  by_cases g7 : plainB a.body = true
  case neg =>
    have g7' : plainB a.body = false := by simpa using g7
    simp only [push_cast, ↓reduceIte, Nat.reduceEqDiff, Nat.reduceAdd, Nat.reduceMul, Nat.reduceSub, Nat.reduceLT, Nat.reduceLeDiff, reduceCtorEq, Nat.reduceMod, Int.reduceEq, Int.reduceLT, Int.reduceLE, Int.reduceToNat, dite_true, g7']
    exact RetOk.p rfl (by unfold fieldOf; rw [ek, ea]; simp [picks, g7']; rfl)
  simp only [push_cast, ↓reduceIte, Nat.reduceEqDiff, Nat.reduceAdd, Nat.reduceMul, Nat.reduceSub, Nat.reduceLT, Nat.reduceLeDiff, reduceCtorEq, Nat.reduceMod, Int.reduceEq, Int.reduceLT, Int.reduceLE, Int.reduceToNat, dite_true, g7]
  have hp : picks f.1 f.2 k a := ⟨by omega, g2, g5, g6, g7⟩
  have hw1 : IntKind.i64.wrap ((a.vars.length : Int) - 1) = (a.vars.length : Int) - 1 := w64 _ (by unfold maxLen at *; omega)
  simp only [push_cast, ↓reduceIte, Nat.reduceEqDiff, Nat.reduceAdd, Nat.reduceMul, Nat.reduceSub, Nat.reduceLT, Nat.reduceLeDiff, reduceCtorEq, Nat.reduceMod, Int.reduceEq, Int.reduceLT, Int.reduceLE, Int.reduceToNat, dite_true, hw1]
  refine VC.loopL (fun i : Nat => [(8, .v (.int .i64 ((i : Int) - 1))), (7, .o 2 b3 0), (6, .o 1 b2 0)]) (fun i => i ≤ a.vars.length ∧ lastAt a.vars a.body.name a.vars.length = lastAt a.vars a.body.name i) (fun i => i) a.vars.length ⟨Nat.le_refl _, rfl⟩ (by simp [subk, Eng.look]) ?_
  rintro i ⟨hi, hli⟩ G hG
  refine VC.go 100 ?_
  cases i with
  | zero =>
    simp only [push_cast, ↓reduceIte, Nat.reduceEqDiff, Nat.reduceAdd, Nat.reduceMul, Nat.reduceSub, Nat.reduceLT, Nat.reduceLeDiff, reduceCtorEq, Nat.reduceMod, Int.reduceEq, Int.reduceLT, Int.reduceLE, Int.reduceToNat, dite_true, show ¬ (0 : Int) ≤ 0 - 1 from by decide]
    exact RetOk.p rfl (by
      have : fieldOf f.1 f.2 = fld0 := by
        unfold fieldOf; rw [ek, ea]
        simp only []
        rw [if_neg]
        rintro ⟨_, h⟩
        rw [hli] at h
        exact absurd h (by simp [lastAt])
      rw [this]; rfl)
  | succ i =>
    have e1 : ((i + 1 : Nat) : Int) - 1 = (i : Int) := by omega
    obtain ⟨qv, rfl, hqv⟩ := (hv3'.mono (PH.le_trans hF1 hF2)).elem1 (i := i) (v := .string (a.vars[i]'(by omega))) (by rw [List.getElem?_map, List.getElem?_eq_getElem (by omega)]; rfl)
    rw [e1]
    have f1 : (0 : Int) ≤ (i : Int) := by omega
    have f2 : (i : Int) < (a.vars.length : Int) := by omega
    have hk2 : F2.cell ((qk.add 0).add 2) = some (.string k.name) := (PH.le_trans hF1 hF2).cell (cell_at kl rfl)
    have hstep : lastAt a.vars a.body.name (i + 1) = if a.vars[i]'(by omega) = a.body.name then (i : Int) else lastAt a.vars a.body.name i := by
      simp only [lastAt, List.getElem?_eq_getElem (show i < a.vars.length by omega), Option.some.injEq]
    simp only [push_cast, ↓reduceIte, Nat.reduceEqDiff, Nat.reduceAdd, Nat.reduceMul, Nat.reduceSub, Nat.reduceLT, Nat.reduceLeDiff, reduceCtorEq, Nat.reduceMod, Int.reduceEq, Int.reduceLT, Int.reduceLE, Int.reduceToNat, dite_true, f1]
    refine VC.draw (.q 0 (.q 1 (.q 2 (.q 3 (.q 4 (.q 5 (.q 6 (.q 7 (.q 8 (.done)))))))))) mixed (by rfl) ?_
    simp only [push_cast, ↓reduceIte, Nat.reduceEqDiff, Nat.reduceAdd, Nat.reduceMul, Nat.reduceSub, Nat.reduceLT, Nat.reduceLeDiff, reduceCtorEq, Nat.reduceMod, Int.reduceEq, Int.reduceLT, Int.reduceLE, Int.reduceToNat, dite_true, f1, f2, hqv]
    refine VC.go 100 ?_
    by_cases g8 : a.vars[i]'(by omega) = a.body.name
    · simp only [push_cast, ↓reduceIte, Nat.reduceEqDiff, Nat.reduceAdd, Nat.reduceMul, Nat.reduceSub, Nat.reduceLT, Nat.reduceLeDiff, reduceCtorEq, Nat.reduceMod, Int.reduceEq, Int.reduceLT, Int.reduceLE, Int.reduceToNat, dite_true, g8]
      refine VC.draw (.q 0 (.q 1 (.q 2 (.q 3 (.q 4 (.q 5 (.q 6 (.q 7 (.q 8 (.q 9 (.q 10 (.q 11 (.done))))))))))))) mixed (by rfl) ?_
      simp only [push_cast, ↓reduceIte, Nat.reduceEqDiff, Nat.reduceAdd, Nat.reduceMul, Nat.reduceSub, Nat.reduceLT, Nat.reduceLeDiff, reduceCtorEq, Nat.reduceMod, Int.reduceEq, Int.reduceLT, Int.reduceLE, Int.reduceToNat, dite_true, hlt, hk2, Nat.zero_mul]
      refine VC.go 100 ?_
      simp only [push_cast, ↓reduceIte, Nat.reduceEqDiff, Nat.reduceAdd, Nat.reduceMul, Nat.reduceSub, Nat.reduceLT, Nat.reduceLeDiff, reduceCtorEq, Nat.reduceMod, Int.reduceEq, Int.reduceLT, Int.reduceLE, Int.reduceToNat, dite_true]
      exact RetOk.p rfl (by
        rw [hstep, if_pos g8] at hli
        unfold fieldOf; rw [ek, ea]
        simp only []
        rw [if_pos ⟨hp, by omega⟩, hli]; rfl)
    · have e2 : IntKind.i64.wrap ((i : Int) - 1) = (i : Int) - 1 := w64 _ (by unfold maxLen at *; omega)
      simp only [push_cast, ↓reduceIte, Nat.reduceEqDiff, Nat.reduceAdd, Nat.reduceMul, Nat.reduceSub, Nat.reduceLT, Nat.reduceLeDiff, reduceCtorEq, Nat.reduceMod, Int.reduceEq, Int.reduceLT, Int.reduceLE, Int.reduceToNat, dite_true, g8, e2]
      rw [hstep, if_neg g8] at hli
      exact hG i _ ⟨by omega, hli⟩ (by omega) (by simp [subk, Eng.look]) (List.Sublist.refl _) rfl rfl
end Go.Proofs.Ytlgfajdedmajcaa.V
