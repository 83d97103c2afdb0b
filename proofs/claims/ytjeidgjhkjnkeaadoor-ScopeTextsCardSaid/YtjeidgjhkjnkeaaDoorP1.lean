/- Package scope: the first thing that is wrong; atoms. -/
import Derived.Test.YtjeidgjhkjnkeaaDoorP0
import Derived.Test.YtjeidgjhkjnkeaaDoorK2
namespace Go.Proofs.YtjeidgjhkjnkeaaDoor.P
open Go Go.Eng Go.Proofs Go.Proofs.YtjeidgjhkjnkeaaDoor.T Go.Proofs.YtjeidgjhkjnkeaaDoor.K
set_option linter.unusedSimpArgs false
set_option linter.unusedVariables false
set_option maxRecDepth 100000
set_option maxHeartbeats 2000000
/-- A scope that has the names of a list. -/
def ScpL (F : PH) (v : Value) (inn : List ByteArray) : Prop := ∃ n m, Scp F n v m ∧ ∀ s, m s = hasB inn s
theorem ScpL.mono {F G : PH} {v : Value} {inn : List ByteArray} (h : ScpL F v inn) (hl : F.le G) : ScpL G v inn := let ⟨n, m, h1, h2⟩ := h; ⟨n, m, h1.mono hl, h2⟩
theorem ScpL.ptr {F : PH} {v : Value} {inn : List ByteArray} (h : ScpL F v inn) : ∃ p, v = .pointer p := let ⟨_, _, h1, _⟩ := h; h1.ptr
theorem hasL (F : PH) (v : Value) (inn : List ByteArray) (s : ByteArray) (h : ScpL F v inn) : PFn Tryd.prog 16 [v, .string s] F (fun r _ => r = .bool (hasB inn s)) := by
  obtain ⟨n, m, h1, h2⟩ := h
  rw [← h2 s]
  exact P.has F n v m s h1
theorem hasB_append (a b : List ByteArray) (s : ByteArray) : hasB (a ++ b) s = (hasB a s || hasB b s) := by simp [hasB]
theorem withL (F : PH) (v vl : Value) (inn l : List ByteArray) (h : ScpL F v inn) (hl : Strs F vl l) : PFn Tryd.prog 17 [v, vl] F (fun r F' => ScpL F' r (inn ++ l)) := by
  obtain ⟨n, m, h1, h2⟩ := h
  exact Eng.Fn.mono (with_ F n v m vl l h1 hl) fun r F' R' _ ⟨e, q⟩ => ⟨e, _, _, q, fun s => by rw [h2, hasB_append, Bool.or_comm]⟩
/-- How the first fault lies. -/
def RepC (F : PH) (c : Ck) (v : Value) : Prop := (c = ⟨false, 0, 0⟩ ∧ v = .pointer none) ∨ ∃ a e b, c = ⟨true, a, e⟩ ∧ v = .pointer (some ⟨b, 0, none⟩) ∧ F b = some (.cells #[.int .i64 a, .int .i64 e] 65 (0, 0))
theorem RepC.mono {F G : PH} {c : Ck} {v : Value} (h : RepC F c v) (hl : F.le G) : RepC G c v := by
  rcases h with h | ⟨a, e, b, h1, h2, h3⟩
  · exact .inl h
  · exact .inr ⟨a, e, b, h1, h2, hl _ _ h3⟩
theorem RepC.one {F : PH} {c : Ck} {v : Value} (h : RepC F c v) : v.oneCell' = true := by
  rcases h with ⟨_, rfl⟩ | ⟨_, _, _, _, rfl, _⟩ <;> rfl
/-- What the methods leave. -/
abbrev SFn (f : FuncId) (args : List Value) (F : PH) (b mb : Nat) (v : Value) (c' : Ck) : Prop :=
  OFn Tryd.prog f (.pointer (some ⟨b, 0, none⟩) :: args) F b 55 [.map (some mb), v] (fun _ F' cs' => ∃ v', cs' = [.map (some mb), v'] ∧ RepC F' c' v')
theorem sret {b mb : Nat} {c' : Ck} {L : KL} {M : List Own} {F : PH} {nx : Nat} {v' : Value} (hM : ownF M 0 = some ⟨0, b, 55, [.map (some mb), v']⟩) (hr : RepC F c' v') :
    RetOk Tryd.prog [] (fun v F' R' => ∃ cs', R' = [cell1 b 55 cs'] ∧ ∃ v', cs' = [.map (some mb), v'] ∧ RepC F' c' v') ⟨L, M, F, [], nx⟩ :=
  RetOk.own (Q := fun _ F' cs' => ∃ v', cs' = [.map (some mb), v'] ∧ RepC F' c' v') 0 rfl hM ⟨v', rfl, hr⟩
theorem fail (F : PH) (b mb : Nat) (v : Value) (c : Ck) (a e : Int) (h : RepC F c v) : SFn 19 [.int .i64 a, .int .i64 e] F b mb v (failC c a e) := by
  rcases h with ⟨rfl, rfl⟩ | ⟨a', e', b', rfl, rfl, hb⟩
  · have h1 : Eng.Fn Tryd.prog 19 (.pointer (some ⟨b, 0, none⟩) :: [.int .i64 a, .int .i64 e]) F [cell1 b 55 [.map (some mb), .pointer none]] (fun _ F' R' => ∃ bf, R' = [cell1 b 55 [.map (some mb), .pointer (some ⟨bf, 0, none⟩)], cell1 bf 65 [.int .i64 a, .int .i64 e]]) := by
      refine Fn.intro (n := 18) (ts := []) Tryd.func19 rfl rfl rfl rfl (by simp) fun B hB => VC.fromR 0 (.refl _) (VC.reL [(0, .o 0 b 0), (1, .v (.int .i64 a)), (2, .v (.int .i64 e))] (by simp [subv, Eng.look, initL]) (VC.go 100 ?_))
      simp only [push_cast, ↓reduceIte, Nat.reduceEqDiff, Nat.reduceAdd, Nat.reduceMul, Nat.reduceSub, Nat.reduceLT, Nat.reduceLeDiff, reduceCtorEq, Nat.reduceMod, Int.reduceEq, Int.reduceLT, Int.reduceLE, Int.reduceToNat, dite_true, Option.isNone_none]
      intro bf
      exact ⟨_, _, rfl, RetR.two, bf, rfl⟩
    exact Eng.Fn.frozen h1 fun r F' R' ⟨bf, e1⟩ => ⟨cell1 bf 65 [.int .i64 a, .int .i64 e], [cell1 b 55 [.map (some mb), .pointer (some ⟨bf, 0, none⟩)]], by rw [e1]; exact .swap _ _ _, fun F'' k1 k2 => ⟨_, rfl, _, rfl, .inr ⟨a, e, bf, rfl, rfl, k2 bf _ (PH.one_self _ _)⟩⟩⟩
  · refine OFn.intro (n := 18) (ts := []) Tryd.func19 rfl rfl rfl rfl (by simp) fun B hB => VC.go 100 ?_
    simp only [push_cast, ↓reduceIte, Nat.reduceEqDiff, Nat.reduceAdd, Nat.reduceMul, Nat.reduceSub, Nat.reduceLT, Nat.reduceLeDiff, reduceCtorEq, Nat.reduceMod, Int.reduceEq, Int.reduceLT, Int.reduceLE, Int.reduceToNat, dite_true, Option.isNone_some]
    exact sret rfl (.inr ⟨a', e', b', rfl, rfl, hb⟩)
theorem atoms (F : PH) (b mb : Nat) (v vs va w1 we w3 : Value) (c : Ck) (e : Exp) (inn : List ByteArray) (lo hi : Int) (hr : RepC F c v) (hX : ExpAt F e va w1 we w3) (hs : ScpL F vs inn) :
    SFn 46 [.agg (expCells e va w1 we w3).toArray, vs, .int .i64 lo, .int .i64 hi] F b mb v (atomsC e.at_ inn e.atoms (whenC ((e.atoms.length : Int) < lo ∨ hi < e.atoms.length) c e.at_ 33)) := by
  obtain ⟨⟨pa, ca, rfl, ha1, ha2, ha3⟩, _, _, _⟩ := hX
  have hone := hr.one
  refine OFn.intro (n := 50) (ts := []) Tryd.func46 rfl rfl rfl rfl (by simp) fun B hB => ?_
  refine VC.go 3 ?_
  simp only [push_cast, ↓reduceIte, Nat.reduceEqDiff, Nat.reduceAdd, Nat.reduceMul, Nat.reduceSub, Nat.reduceLT, Nat.reduceLeDiff, reduceCtorEq, Nat.reduceMod, Int.reduceEq, Int.reduceLT, Int.reduceLE, Int.reduceToNat, dite_true, hone]
  intro bx
  refine VC.cutM (ι := Nat × Value × Ck × PH) (fun i => [(6, .o 1 bx 0), (2, .v vs), (0, .o 0 b 0)]) (fun i => [⟨0, b, 55, [.map (some mb), i.2.1]⟩, ⟨1, bx, 42, expCells e (.slice pa e.atoms.length ca) w1 we w3⟩]) (fun i => i.2.2.2) (fun i => F.le i.2.2.2 ∧ RepC i.2.2.2 i.2.2.1 i.2.1 ∧ i.2.2.1 = whenC ((e.atoms.length : Int) < lo ∨ hi < e.atoms.length) c e.at_ 33) ?_ ?_
  · intro G hG
    refine VC.go 100 ?_
    by_cases g1 : (e.atoms.length : Int) < lo
    · simp only [push_cast, ↓reduceIte, Nat.reduceEqDiff, Nat.reduceAdd, Nat.reduceMul, Nat.reduceSub, Nat.reduceLT, Nat.reduceLeDiff, reduceCtorEq, Nat.reduceMod, Int.reduceEq, Int.reduceLT, Int.reduceLE, Int.reduceToNat, dite_true, g1, hone]
      refine CallV.own (i := 0) rfl (fail F b mb v c e.at_ 33 hr) ?_
      rintro _ F2 _ hF2 ⟨v2, rfl, hr2⟩
      simp only [push_cast, ↓reduceIte, Nat.reduceEqDiff, Nat.reduceAdd, Nat.reduceMul, Nat.reduceSub, Nat.reduceLT, Nat.reduceLeDiff, reduceCtorEq, Nat.reduceMod, Int.reduceEq, Int.reduceLT, Int.reduceLE, Int.reduceToNat, dite_true]
      exact hG (bx, v2, failC c e.at_ 33, F2) _ ⟨hF2, hr2, by rw [whenC, if_pos (.inl g1)]⟩ (by simp [subk, Eng.look]) (List.Sublist.refl _) rfl rfl
    by_cases g2 : hi < (e.atoms.length : Int)
    · simp only [push_cast, ↓reduceIte, Nat.reduceEqDiff, Nat.reduceAdd, Nat.reduceMul, Nat.reduceSub, Nat.reduceLT, Nat.reduceLeDiff, reduceCtorEq, Nat.reduceMod, Int.reduceEq, Int.reduceLT, Int.reduceLE, Int.reduceToNat, dite_true, g1, g2, hone]
      refine CallV.own (i := 0) rfl (fail F b mb v c e.at_ 33 hr) ?_
      rintro _ F2 _ hF2 ⟨v2, rfl, hr2⟩
      simp only [push_cast, ↓reduceIte, Nat.reduceEqDiff, Nat.reduceAdd, Nat.reduceMul, Nat.reduceSub, Nat.reduceLT, Nat.reduceLeDiff, reduceCtorEq, Nat.reduceMod, Int.reduceEq, Int.reduceLT, Int.reduceLE, Int.reduceToNat, dite_true]
      exact hG (bx, v2, failC c e.at_ 33, F2) _ ⟨hF2, hr2, by rw [whenC, if_pos (.inr g2)]⟩ (by simp [subk, Eng.look]) (List.Sublist.refl _) rfl rfl
    · simp only [push_cast, ↓reduceIte, Nat.reduceEqDiff, Nat.reduceAdd, Nat.reduceMul, Nat.reduceSub, Nat.reduceLT, Nat.reduceLeDiff, reduceCtorEq, Nat.reduceMod, Int.reduceEq, Int.reduceLT, Int.reduceLE, Int.reduceToNat, dite_true, g1, g2, hone]
      exact hG (bx, v, c, F) _ ⟨PH.le_refl _, hr, by rw [whenC, if_neg (fun h => h.elim g1 g2)]⟩ (by simp [subk, Eng.look]) (List.Sublist.refl _) rfl rfl
  rintro ⟨_, v0, c0, F0⟩ ⟨hF0, hr0, hc0⟩
  dsimp only at hF0 hr0 hc0 ⊢
  rw [← hc0]
  clear hc0 hr
  refine VC.go 100 ?_
  simp only [push_cast, ↓reduceIte, Nat.reduceEqDiff, Nat.reduceAdd, Nat.reduceMul, Nat.reduceSub, Nat.reduceLT, Nat.reduceLeDiff, reduceCtorEq, Nat.reduceMod, Int.reduceEq, Int.reduceLT, Int.reduceLE, Int.reduceToNat, dite_true, hr0.one]
  refine VC.loopM (ι := Nat × Value × Ck × PH) (fun i => [(31, .v (.int .i64 i.1)), (30, .v (.int .i64 e.atoms.length)), (29, .v (.slice pa e.atoms.length ca)), (6, .o 1 bx 0), (2, .v vs), (0, .o 0 b 0)]) (fun i => [⟨0, b, 55, [.map (some mb), i.2.1]⟩, ⟨1, bx, 42, expCells e (.slice pa e.atoms.length ca) w1 we w3⟩]) (fun i => i.2.2.2) (fun i => i.1 ≤ e.atoms.length ∧ F.le i.2.2.2 ∧ RepC i.2.2.2 i.2.2.1 i.2.1 ∧ i.2.2.1 = atomsC e.at_ inn (e.atoms.take i.1) c0) (fun i => e.atoms.length - i.1) (0, v0, c0, F0) ⟨Nat.zero_le _, hF0, hr0, rfl⟩ (by simp [subk, Eng.look]) (List.Sublist.refl _) rfl ?_
  rintro ⟨k, v1, c1, F1⟩ ⟨hk, hF1, hr1, hc⟩ G hG
  dsimp only at hk hF1 hr1 hc hG ⊢
  have hone1 := hr1.one
  refine VC.go 100 ?_
  by_cases h : k < e.atoms.length
  case neg =>
    have h' : ¬ (k : Int) < (e.atoms.length : Int) := by omega
    rw [List.take_of_length_le (by omega)] at hc
    subst hc
    simp only [push_cast, ↓reduceIte, Nat.reduceEqDiff, Nat.reduceAdd, Nat.reduceMul, Nat.reduceSub, Nat.reduceLT, Nat.reduceLeDiff, reduceCtorEq, Nat.reduceMod, Int.reduceEq, Int.reduceLT, Int.reduceLE, Int.reduceToNat, dite_true, h', hone1]
    exact sret rfl hr1
  have h' : (k : Int) < (e.atoms.length : Int) := by omega
  have h0 : (0 : Int) ≤ (k : Int) := by omega
  obtain ⟨a, rfl, ha⟩ := (ha3.mono hF1).elem h (by decide)
  rw [atomVals_at _ _ h] at ha
  have e2 : IntKind.i64.wrap ((k : Int) + 1) = ((k + 1 : Nat) : Int) := wadd k h (Nat.le_trans ha1 ha2)
  have ht : atomsC e.at_ inn (e.atoms.take (k + 1)) c0 = stepA e.at_ inn c1 e.atoms[k] := by rw [List.take_succ_eq_append_getElem h, atomsC_snoc, hc]
  by_cases g : (e.atoms[k]).1 = ⟨#[]⟩
  · simp only [push_cast, ↓reduceIte, Nat.reduceEqDiff, Nat.reduceAdd, Nat.reduceMul, Nat.reduceSub, Nat.reduceLT, Nat.reduceLeDiff, reduceCtorEq, Nat.reduceMod, Int.reduceEq, Int.reduceLT, Int.reduceLE, Int.reduceToNat, dite_true, h', h0, ha, hone1, eq_true g, e2]
    intro b7
    refine hG (k + 1, v1, c1, F1) _ ⟨by simp; omega, hF1, hr1, ?_⟩ (by simp; omega) (by simp [subk, Eng.look]) (by simp) rfl rfl
    rw [ht]; simp [stepA, whenC, g]
  simp only [push_cast, ↓reduceIte, Nat.reduceEqDiff, Nat.reduceAdd, Nat.reduceMul, Nat.reduceSub, Nat.reduceLT, Nat.reduceLeDiff, reduceCtorEq, Nat.reduceMod, Int.reduceEq, Int.reduceLT, Int.reduceLE, Int.reduceToNat, dite_true, h', h0, ha, hone1, g]
  intro b7
  refine CallV.pure (hasL F1 vs inn (e.atoms[k]).1 (hs.mono hF1)) ?_
  rintro _ F2 hF2 rfl
  cases hh : hasB inn (e.atoms[k]).1 with
  | true =>
    simp only [push_cast, ↓reduceIte, Nat.reduceEqDiff, Nat.reduceAdd, Nat.reduceMul, Nat.reduceSub, Nat.reduceLT, Nat.reduceLeDiff, reduceCtorEq, Nat.reduceMod, Int.reduceEq, Int.reduceLT, Int.reduceLE, Int.reduceToNat, dite_true, e2]
    refine hG (k + 1, v1, c1, F2) _ ⟨by simp; omega, PH.le_trans hF1 hF2, hr1.mono hF2, ?_⟩ (by simp; omega) (by simp [subk, Eng.look]) (by simp) rfl rfl
    rw [ht]; simp [stepA, whenC, hh]
  | false =>
    simp only [push_cast, ↓reduceIte, Nat.reduceEqDiff, Nat.reduceAdd, Nat.reduceMul, Nat.reduceSub, Nat.reduceLT, Nat.reduceLeDiff, reduceCtorEq, Nat.reduceMod, Int.reduceEq, Int.reduceLT, Int.reduceLE, Int.reduceToNat, dite_true, hone1]
    refine CallV.own (i := 0) rfl (fail F2 b mb v1 c1 e.at_ 31 (hr1.mono hF2)) ?_
    rintro _ F3 _ hF3 ⟨v3, rfl, hr3⟩
    simp only [push_cast, ↓reduceIte, Nat.reduceEqDiff, Nat.reduceAdd, Nat.reduceMul, Nat.reduceSub, Nat.reduceLT, Nat.reduceLeDiff, reduceCtorEq, Nat.reduceMod, Int.reduceEq, Int.reduceLT, Int.reduceLE, Int.reduceToNat, dite_true, e2]
    refine hG (k + 1, v3, failC c1 e.at_ 31, F3) _ ⟨by simp; omega, PH.le_trans hF1 (PH.le_trans hF2 hF3), hr3, ?_⟩ (by simp; omega) (by simp [subk, Eng.look]) (by simp) rfl rfl
    rw [ht]; simp [stepA, whenC, g, hh]
end Go.Proofs.YtjeidgjhkjnkeaaDoor.P
