/- The document's checker, as a plain function; and its walk over atoms. -/
import Derived.Test.YtjeidgjhkjnkeaaDoorK1
namespace Go.Proofs.YtjeidgjhkjnkeaaDoor.K
open Go Go.Eng Go.Proofs Go.Proofs.YtjeidgjhkjnkeaaDoor.T
set_option linter.unusedSimpArgs false
set_option linter.unusedVariables false
set_option maxRecDepth 100000
set_option maxHeartbeats 2000000
def emptyB : ByteArray := ⟨#[]⟩
def whenC (p : Prop) [Decidable p] (c : Ck) (a e : Int) : Ck := if p then failC c a e else c
def stepA (a : Int) (inn : List ByteArray) (c : Ck) (x : ByteArray × Int) : Ck := whenC (¬ x.1 = ⟨#[]⟩ ∧ hasB inn x.1 = false) c a 31
def atomsC (a : Int) (inn : List ByteArray) (l : List (ByteArray × Int)) (c : Ck) : Ck := l.foldl (stepA a inn) c
theorem atomsC_snoc (a : Int) (inn : List ByteArray) (l : List (ByteArray × Int)) (x : ByteArray × Int) (c : Ck) : atomsC a inn (l ++ [x]) c = stepA a inn (atomsC a inn l c) x := by simp [atomsC, List.foldl_append]
def stepD (p : List ByteArray) (b : Bind) (c : Ck) : Ck := whenC (hasB p b.name = true) (whenC (b.name = ⟨#[]⟩) c b.at_ 31) b.at_ 30
def dupC : List ByteArray → List Bind → Ck → Ck
  | _, [], c => c
  | p, b :: l, c => dupC (p ++ [b.name]) l (stepD p b c)
theorem dupC_snoc : ∀ (l : List Bind) (p : List ByteArray) (b : Bind) (c : Ck), dupC p (l ++ [b]) c = stepD (p ++ l.map Bind.name) b (dupC p l c)
  | [], p, b, c => by simp [dupC]
  | x :: l, p, b, c => by simp [dupC, dupC_snoc l]
def lastC (p : List Alt) (a : Alt) (c : Ck) : Ck := p.foldl (fun c b => whenC (b.kind = 3) c a.at_ 35) c
def againB (p : List Alt) (a : Alt) : Bool := p.foldl (fun r b => r || (decide (a.kind = 1) && decide (b.kind = 1) && decide (a.name = b.name)) || (decide (a.kind = 2) && decide (b.kind = 2) && decide (a.n = b.n))) false
theorem lastC_snoc (p : List Alt) (b a : Alt) (c : Ck) : lastC (p ++ [b]) a c = whenC (b.kind = 3) (lastC p a c) a.at_ 35 := by simp [lastC, List.foldl_append]
theorem againB_snoc (p : List Alt) (b a : Alt) : againB (p ++ [b]) a = (againB p a || (decide (a.kind = 1) && decide (b.kind = 1) && decide (a.name = b.name)) || (decide (a.kind = 2) && decide (b.kind = 2) && decide (a.n = b.n))) := by simp [againB, List.foldl_append]
/-- What is asked of a form's arguments. -/
def argsC (a : Int) (l : List ByteArray) (c : Ck) : Ck := if 8 < l.length then failC c a 33 else if hasB l ⟨#[]⟩ = true then failC c a 31 else if twiceB [] l = true then failC c a 30 else c
/-- What is asked of an alternative, its body aside. -/
def headC (ds : List Dat) (k a : Int) (s : ByteArray) (l : List ByteArray) (c : Ck) : Ck :=
  if k = 1 then (match arityD ds s with
    | none => failC c a 32
    | some m => if ¬ m = l.length then failC c a 33 else if hasB l ⟨#[]⟩ = true then failC c a 31 else if twiceB [] l = true then failC c a 30 else c)
  else if k = 2 then c else if k = 3 then whenC (s = ⟨#[]⟩) c a 31 else failC c a 2
def altIn (k : Int) (s : ByteArray) (l inn : List ByteArray) : List ByteArray := if k = 1 then inn ++ l else if k = 3 then inn ++ [s] else inn
mutual
def expC (ds : List Dat) : Exp → List ByteArray → Ck → Ck
  | .mk k a s n ats bs es ls, inn, c => if c.bad = true then c
    else if k = 1 then atomsC a inn ats (whenC (8 < ats.length) (whenC (hasB inn s = false) c a 31) a 33)
    else if k = 2 then atomsC a inn ats (whenC (¬ (ats.length : Int) = (arityD ds s).getD 0) (whenC ((arityD ds s).isSome = false) c a 32) a 33)
    else if k = 3 then atomsC a inn ats (whenC (¬ (ats.length : Int) = arityP (findP s)) (whenC (findP s = 0) c a 34) a 33)
    else if k = 4 then c
    else if k = 5 then (if bs.length = 0 ∨ es.length = 0 then failC c a 2 else kidC ds es (inn ++ bs.map Bind.name) (bindsC ds bs (inn ++ bs.map Bind.name) (dupC [] bs c)))
    else if k = 6 then (if es.length = 0 ∨ ls.length = 0 then failC c a 2 else altsC ds [] ls inn (kidC ds es inn c))
    else failC c a 2
def formC (ds : List Dat) : Bind → List ByteArray → Ck → Ck
  | .mk s a l e, inn, c => if c.bad = true then c else expC ds e (inn ++ l) (argsC a l c)
def altC (ds : List Dat) : Alt → Bool → List ByteArray → Ck → Ck
  | .mk k a s n l e, again, inn, c => expC ds e (altIn k s l inn) (whenC (again = true) (headC ds k a s l c) a 30)
def bindsC (ds : List Dat) : List Bind → List ByteArray → Ck → Ck
  | [], _, c => c
  | b :: l, inn, c => bindsC ds l inn (formC ds b inn c)
def kidC (ds : List Dat) : List Exp → List ByteArray → Ck → Ck
  | [], _, c => c
  | e :: _, inn, c => expC ds e inn c
def altsC (ds : List Dat) : List Alt → List Alt → List ByteArray → Ck → Ck
  | _, [], _, c => c
  | p, a :: l, inn, c => altsC ds (p ++ [a]) l inn (if c.bad = true then c else altC ds a (againB p a) inn (lastC p a c))
end
def altStep (ds : List Dat) (p : List Alt) (a : Alt) (inn : List ByteArray) (c : Ck) : Ck := if c.bad = true then c else altC ds a (againB p a) inn (lastC p a c)
theorem altsC_cons (ds : List Dat) (p : List Alt) (a : Alt) (l : List Alt) (inn : List ByteArray) (c : Ck) : altsC ds p (a :: l) inn c = altsC ds (p ++ [a]) l inn (altStep ds p a inn c) := by simp only [altsC, altStep]
theorem altsC_snoc (ds : List Dat) (inn : List ByteArray) : ∀ (l p : List Alt) (a : Alt) (c : Ck), altsC ds p (l ++ [a]) inn c = altStep ds (p ++ l) a inn (altsC ds p l inn c)
  | [], p, a, c => by rw [List.nil_append, altsC_cons]; simp [altsC]
  | x :: l, p, a, c => by rw [List.cons_append, altsC_cons, altsC_cons, altsC_snoc ds inn l]; simp
theorem bindsC_snoc (ds : List Dat) (inn : List ByteArray) : ∀ (l : List Bind) (b : Bind) (c : Ck), bindsC ds (l ++ [b]) inn c = formC ds b inn (bindsC ds l inn c)
  | [], b, c => by simp [bindsC]
  | x :: l, b, c => by simp [bindsC, bindsC_snoc ds inn l]
theorem altsC_bad (ds : List Dat) (inn : List ByteArray) : ∀ (l p : List Alt) (c : Ck), c.bad = true → altsC ds p l inn c = c
  | [], p, c, h => by simp [altsC]
  | x :: l, p, c, h => by rw [altsC_cons, show altStep ds p x inn c = c from if_pos h, altsC_bad ds inn l _ c h]
theorem atomsF (F : PH) (b : Nat) (vd vb vin va w1 we w3 : Value) (c : Ck) (e : Exp) (inn : List ByteArray) (hX : ExpAt F e va w1 we w3) (hi : Strs F vin inn) (hd : vd.oneCell' = true) (hb : vb.oneCell' = true) :
    ChkFn 51 [.agg (expCells e va w1 we w3).toArray, vin] F b vd vb c (atomsC e.at_ inn e.atoms c) := by
  obtain ⟨⟨pa, ca, rfl, ha1, ha2, ha3⟩, _, _, _⟩ := hX
  refine OFn.intro (n := 36) (ts := []) Tryd.func51 rfl rfl rfl rfl (by simp) fun B hB => VC.go 100 ?_
  simp only [push_cast, ↓reduceIte, Nat.reduceEqDiff, Nat.reduceAdd, Nat.reduceMul, Nat.reduceSub, Nat.reduceLT, Nat.reduceLeDiff, reduceCtorEq, Nat.reduceMod, Int.reduceEq, Int.reduceLT, Int.reduceLE, Int.reduceToNat, dite_true]
  intro bx
  refine VC.loopM (ι := Nat × Ck × PH) (fun i => [(6, .v (.int .i64 i.1)), (4, .o 1 bx 0), (2, .v vin), (0, .o 0 b 0)]) (fun i => [⟨0, b, 68, ckCells vd vb i.2.1⟩, ⟨1, bx, 42, expCells e (.slice pa e.atoms.length ca) w1 we w3⟩]) (fun i => i.2.2) (fun i => i.1 ≤ e.atoms.length ∧ F.le i.2.2 ∧ i.2.1 = atomsC e.at_ inn (e.atoms.take i.1) c) (fun i => e.atoms.length - i.1) (0, c, F) ⟨Nat.zero_le _, PH.le_refl _, rfl⟩ (by simp [subk, Eng.look]) (List.Sublist.refl _) rfl ?_
  rintro ⟨k, c1, F1⟩ ⟨hk, hF1, hc⟩ G hG
  dsimp only at hk hF1 hc hG ⊢
  refine VC.go 100 ?_
  by_cases h : k < e.atoms.length
  case neg =>
    have h' : ¬ (k : Int) < (e.atoms.length : Int) := by omega
    rw [List.take_of_length_le (by omega)] at hc
    subst hc
    simp only [push_cast, ↓reduceIte, Nat.reduceEqDiff, Nat.reduceAdd, Nat.reduceMul, Nat.reduceSub, Nat.reduceLT, Nat.reduceLeDiff, reduceCtorEq, Nat.reduceMod, Int.reduceEq, Int.reduceLT, Int.reduceLE, Int.reduceToNat, dite_true, h', hd, hb]
    exact chk_ret rfl
  have h' : (k : Int) < (e.atoms.length : Int) := by omega
  have h0 : (0 : Int) ≤ (k : Int) := by omega
  obtain ⟨a, rfl, ha⟩ := (ha3.mono hF1).elem h (by decide)
  rw [atomVals_at _ _ h] at ha
  have ha0 := cell_at ha (o := 0) rfl
  have e2 : IntKind.i64.wrap ((k : Int) + 1) = ((k + 1 : Nat) : Int) := wadd k h (Nat.le_trans ha1 ha2)
  have ht : atomsC e.at_ inn (e.atoms.take (k + 1)) c = stepA e.at_ inn c1 e.atoms[k] := by rw [List.take_succ_eq_append_getElem h, atomsC_snoc, hc]
  by_cases g : (e.atoms[k]).1 = ⟨#[]⟩
  · simp only [push_cast, ↓reduceIte, Nat.reduceEqDiff, Nat.reduceAdd, Nat.reduceMul, Nat.reduceSub, Nat.reduceLT, Nat.reduceLeDiff, reduceCtorEq, Nat.reduceMod, Int.reduceEq, Int.reduceLT, Int.reduceLE, Int.reduceToNat, dite_true, h', h0, ha0, hd, hb, eq_true g, e2]
    refine hG (k + 1, c1, F1) _ ⟨by simp; omega, hF1, ?_⟩ (by simp; omega) (by simp [subk, Eng.look]) (List.Sublist.refl _) rfl rfl
    rw [ht]; simp [stepA, whenC, g]
  simp only [push_cast, ↓reduceIte, Nat.reduceEqDiff, Nat.reduceAdd, Nat.reduceMul, Nat.reduceSub, Nat.reduceLT, Nat.reduceLeDiff, reduceCtorEq, Nat.reduceMod, Int.reduceEq, Int.reduceLT, Int.reduceLE, Int.reduceToNat, dite_true, h', h0, ha0, hd, hb, g]
  refine CallV.pure (has F1 _ inn (e.atoms[k]).1 (hi.mono hF1)) ?_
  rintro _ F2 hF2 rfl
  cases hh : hasB inn (e.atoms[k]).1 with
  | true =>
    simp only [push_cast, ↓reduceIte, Nat.reduceEqDiff, Nat.reduceAdd, Nat.reduceMul, Nat.reduceSub, Nat.reduceLT, Nat.reduceLeDiff, reduceCtorEq, Nat.reduceMod, Int.reduceEq, Int.reduceLT, Int.reduceLE, Int.reduceToNat, dite_true, e2]
    refine hG (k + 1, c1, F2) _ ⟨by simp; omega, PH.le_trans hF1 hF2, ?_⟩ (by simp; omega) (by simp [subk, Eng.look]) (List.Sublist.refl _) rfl rfl
    rw [ht]; simp [stepA, whenC, hh]
  | false =>
    simp only [push_cast, ↓reduceIte, Nat.reduceEqDiff, Nat.reduceAdd, Nat.reduceMul, Nat.reduceSub, Nat.reduceLT, Nat.reduceLeDiff, reduceCtorEq, Nat.reduceMod, Int.reduceEq, Int.reduceLT, Int.reduceLE, Int.reduceToNat, dite_true, hd, hb]
    refine CallV.own (i := 0) rfl (fail F2 b vd vb c1 e.at_ 31) ?_
    rintro _ F3 _ hF3 rfl
    simp only [push_cast, ↓reduceIte, Nat.reduceEqDiff, Nat.reduceAdd, Nat.reduceMul, Nat.reduceSub, Nat.reduceLT, Nat.reduceLeDiff, reduceCtorEq, Nat.reduceMod, Int.reduceEq, Int.reduceLT, Int.reduceLE, Int.reduceToNat, dite_true, e2]
    refine hG (k + 1, failC c1 e.at_ 31, F3) _ ⟨by simp; omega, PH.le_trans hF1 (PH.le_trans hF2 hF3), ?_⟩ (by simp; omega) (by simp [subk, Eng.look]) (List.Sublist.refl _) rfl rfl
    rw [ht]; simp [stepA, whenC, g, hh]
end Go.Proofs.YtjeidgjhkjnkeaaDoor.K
