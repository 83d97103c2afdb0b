/- The document's free names: the walk. -/
import Derived.Test.YtoepmdbicdoieaaDoorJ4
namespace Go.Proofs.YtoepmdbicdoieaaDoor.J
open Go Go.Eng Go.Proofs Go.Proofs.YtoepmdbicdoieaaDoor.T Go.Proofs.YtoepmdbicdoieaaDoor.V Go.Proofs.YtoepmdbicdoieaaDoor.K Go.Proofs.YtoepmdbicdoieaaDoor.U
open Go.Proofs.YtoepmdbicdoieaaDoor.W (i64v ptr)
set_option linter.unusedSimpArgs false
set_option linter.unusedVariables false
set_option maxRecDepth 100000
set_option maxHeartbeats 4000000
theorem has10 (F : PH) (av : Value) (a : List ByteArray) (s : ByteArray) (ha : Strs F av a) : PFn Tryd.prog 137 [av, .string s] F (fun v _ => v = .bool (hasB a s)) := by
  obtain ⟨pa, ca, rfl, ha1, ha2, ha3⟩ := ha
  refine Fn.intro (n := 18) (ts := [4]) Tryd.func137 rfl rfl rfl rfl (by simp) fun B hB => VC.go 100 ?_
  simp only [push_cast, ↓reduceIte, Nat.reduceEqDiff, Nat.reduceAdd, Nat.reduceMul, Nat.reduceSub, Nat.reduceLT, Nat.reduceLeDiff, reduceCtorEq, Nat.reduceMod, Int.reduceEq, Int.reduceLT, Int.reduceLE, Int.reduceToNat, dite_true]
  refine VC.loopL (fun i : Nat => [(5, .v (.int .i64 i)), (0, .v (.slice pa a.length ca)), (1, .v (.string s))]) (fun i => i ≤ a.length ∧ ¬ s ∈ a.take i) (fun i => a.length - i) 0 ⟨Nat.zero_le _, by simp⟩ (by simp [subk, Eng.look]) ?_
  intro i ⟨hi, ht⟩ G hG
  refine VC.go 100 ?_
  by_cases h : i < a.length
  case neg =>
    have h' : ¬ (i : Int) < (a.length : Int) := by omega
    simp only [push_cast, ↓reduceIte, Nat.reduceEqDiff, Nat.reduceAdd, Nat.reduceMul, Nat.reduceSub, Nat.reduceLT, Nat.reduceLeDiff, reduceCtorEq, Nat.reduceMod, Int.reduceEq, Int.reduceLT, Int.reduceLE, Int.reduceToNat, dite_true, h']
    rw [List.take_of_length_le (by omega)] at ht
    exact RetOk.p rfl (by rw [hasB_no ht]; rfl)
  have h' : (i : Int) < (a.length : Int) := by omega
  have h0 : (0 : Int) ≤ (i : Int) := by omega
  obtain ⟨qa, rfl, hqa⟩ := ha3.elem1 (i := i) (v := .string a[i]) (by simp [h])
  have e2 : IntKind.i64.wrap ((i : Int) + 1) = ((i + 1 : Nat) : Int) := wadd i h (Nat.le_trans ha1 ha2)
  by_cases g2 : a[i] = s
  · simp only [push_cast, ↓reduceIte, Nat.reduceEqDiff, Nat.reduceAdd, Nat.reduceMul, Nat.reduceSub, Nat.reduceLT, Nat.reduceLeDiff, reduceCtorEq, Nat.reduceMod, Int.reduceEq, Int.reduceLT, Int.reduceLE, Int.reduceToNat, dite_true, h', h0, hqa, eq_true g2]
    exact RetOk.p rfl (by
      have : s ∈ a := g2 ▸ List.getElem_mem h
      rw [hasB_iff.2 this]; rfl)
  · simp only [push_cast, ↓reduceIte, Nat.reduceEqDiff, Nat.reduceAdd, Nat.reduceMul, Nat.reduceSub, Nat.reduceLT, Nat.reduceLeDiff, reduceCtorEq, Nat.reduceMod, Int.reduceEq, Int.reduceLT, Int.reduceLE, Int.reduceToNat, dite_true, h', h0, hqa, g2, e2]
    refine hG (i + 1) _ ⟨by omega, ?_⟩ (by omega) (by simp [subk, Eng.look]) (List.Sublist.refl _) rfl rfl
    rw [List.take_succ_eq_append_getElem h]
    simp only [List.mem_append, List.mem_singleton, not_or]
    exact ⟨ht, fun e => g2 e.symm⟩
theorem with10 (F : PH) (av bv : Value) (a b : List ByteArray) (ha : Strs F av a) (hb : Strs F bv b) (hl : a.length + b.length ≤ 1000000000) : RowS Tryd.prog 133 [av, bv] F (a ++ b) := by
  obtain ⟨pa, ca, rfl, ha1, ha2, ha3⟩ := ha
  obtain ⟨pb, cb, rfl, hb1, hb2, hb3⟩ := hb
  refine Fn.intro (n := 10) (ts := [4]) Tryd.func133 rfl rfl rfl rfl (by simp) fun B hB => VC.go 100 ?_
  simp only [push_cast, ↓reduceIte, Nat.reduceEqDiff, Nat.reduceAdd, Nat.reduceMul, Nat.reduceSub, Nat.reduceLT, Nat.reduceLeDiff, reduceCtorEq, Nat.reduceMod, Int.reduceEq, Int.reduceLT, Int.reduceLE, Int.reduceToNat, dite_true]
  intro bb
  refine Eff.append (xs := []) (ys := a.map .string) rfl rfl rfl ty44 rfl ty9 rfl (by decide) rfl rfl (List.Perm.refl _) (Row.begin bb _ _) ha3 (by simp [Value.oneCell']) (by simp; omega) (by decide) ?_
  intro v1 r1 hr1
  simp only [push_cast, ↓reduceIte, Nat.reduceEqDiff, Nat.reduceAdd, Nat.reduceMul, Nat.reduceSub, Nat.reduceLT, Nat.reduceLeDiff, reduceCtorEq, Nat.reduceMod, Int.reduceEq, Int.reduceLT, Int.reduceLE, Int.reduceToNat, dite_true]
  refine Eff.append (xs := a.map .string) (ys := b.map .string) rfl rfl rfl ty44 rfl ty9 rfl (by decide) rfl rfl (List.Perm.refl _) hr1 hb3 (by simp [Value.oneCell']) (by simp; omega) (by decide) ?_
  intro v2 r2 hr2
  simp only [push_cast, ↓reduceIte, Nat.reduceEqDiff, Nat.reduceAdd, Nat.reduceMul, Nat.reduceSub, Nat.reduceLT, Nat.reduceLeDiff, reduceCtorEq, Nat.reduceMod, Int.reduceEq, Int.reduceLT, Int.reduceLE, Int.reduceToNat, dite_true]
  exact ⟨_, [r2], rfl, RetR.refl _, r2, rfl, by rw [List.map_append]; exact hr2⟩
/-- A function that is lent a list of names and hands it back, longer. -/
def NamesFn (f : FuncId) (args : List Value) (F : PH) (r : PH) (l : List ByteArray) : Prop := Eng.Fn Tryd.prog f args F [r] (fun v' F' R' => ∃ r', R' = [r'] ∧ Row r' 9 1 v' (l.map .string))
theorem put10 (F : PH) (r : PH) (v bv : Value) (out bound : List ByteArray) (s : ByteArray) (hr : Row r 9 1 v (out.map .string)) (hb : Strs F bv bound) (hl : out.length ≤ 100000000) :
    NamesFn 132 [v, bv, .string s] F r (putN bound out s) := by
  refine Fn.intro (n := 24) (ts := [6]) Tryd.func132 rfl rfl rfl rfl (by simp) fun B hB => VC.go 100 ?_
  by_cases h1 : s = ⟨#[]⟩
  · simp only [push_cast, ↓reduceIte, Nat.reduceEqDiff, Nat.reduceAdd, Nat.reduceMul, Nat.reduceSub, Nat.reduceLT, Nat.reduceLeDiff, reduceCtorEq, Nat.reduceMod, Int.reduceEq, Int.reduceLT, Int.reduceLE, Int.reduceToNat, dite_true, eq_true h1]
    exact RetOk.r (vs := [_]) rfl (RetR.refl _) ⟨r, rfl, by rw [putN_skip (.inl h1)]; exact hr⟩
  simp only [push_cast, ↓reduceIte, Nat.reduceEqDiff, Nat.reduceAdd, Nat.reduceMul, Nat.reduceSub, Nat.reduceLT, Nat.reduceLeDiff, reduceCtorEq, Nat.reduceMod, Int.reduceEq, Int.reduceLT, Int.reduceLE, Int.reduceToNat, dite_true, h1]
  refine CallV.pure (has10 F bv bound s hb) ?_
  rintro _ F1 hF1 rfl
  by_cases h2 : s ∈ bound
  · simp only [push_cast, ↓reduceIte, Nat.reduceEqDiff, Nat.reduceAdd, Nat.reduceMul, Nat.reduceSub, Nat.reduceLT, Nat.reduceLeDiff, reduceCtorEq, Nat.reduceMod, Int.reduceEq, Int.reduceLT, Int.reduceLE, Int.reduceToNat, dite_true, hasB_iff.2 h2]
    exact RetOk.r (vs := [_]) rfl (RetR.refl _) ⟨r, rfl, by rw [putN_skip (.inr (.inl h2))]; exact hr⟩
  simp only [push_cast, ↓reduceIte, Nat.reduceEqDiff, Nat.reduceAdd, Nat.reduceMul, Nat.reduceSub, Nat.reduceLT, Nat.reduceLeDiff, reduceCtorEq, Nat.reduceMod, Int.reduceEq, Int.reduceLT, Int.reduceLE, Int.reduceToNat, dite_true, hasB_no h2]
  refine CallV.lendPure (r := r) (Rf := []) (List.Perm.refl _) (has10 F1 _ [] s (nil_strs _)).1 (fun hd => has10 _ _ _ _ (Row.strs hr (PH.or_right hd))) ?_
  rintro _ F2 hF2 rfl
  by_cases h3 : s ∈ out
  · simp only [push_cast, ↓reduceIte, Nat.reduceEqDiff, Nat.reduceAdd, Nat.reduceMul, Nat.reduceSub, Nat.reduceLT, Nat.reduceLeDiff, reduceCtorEq, Nat.reduceMod, Int.reduceEq, Int.reduceLT, Int.reduceLE, Int.reduceToNat, dite_true, hasB_iff.2 h3]
    exact RetOk.r (vs := [_]) rfl (RetR.refl _) ⟨r, rfl, by rw [putN_skip (.inr (.inr h3))]; exact hr⟩
  simp only [push_cast, ↓reduceIte, Nat.reduceEqDiff, Nat.reduceAdd, Nat.reduceMul, Nat.reduceSub, Nat.reduceLT, Nat.reduceLeDiff, reduceCtorEq, Nat.reduceMod, Int.reduceEq, Int.reduceLT, Int.reduceLE, Int.reduceToNat, dite_true, hasB_no h3]
  intro b F3 hF3 hb3
  refine Eff.append (ys := [.string s]) rfl rfl rfl ty44 rfl ty9 rfl (by decide) rfl rfl (List.Perm.refl _) hr (Src.blk hb3 rfl) (by simp [Value.oneCell']) (by simp; omega) (by decide) fun v' r' hr' => ?_
  simp only [push_cast, ↓reduceIte, Nat.reduceEqDiff, Nat.reduceAdd, Nat.reduceMul, Nat.reduceSub, Nat.reduceLT, Nat.reduceLeDiff, reduceCtorEq, Nat.reduceMod, Int.reduceEq, Int.reduceLT, Int.reduceLE, Int.reduceToNat, dite_true]
  exact RetOk.r (vs := [_]) rfl (RetR.refl _) ⟨r', rfl, by rw [show putN bound out s = out ++ [s] from if_neg (by simp [h1, h2, h3]), List.map_append]; exact hr'⟩
section
variable {S : St} {κ : St → Prop} {d : Option Tmp} {f : FuncId} {args : List Value} {st : Bool}
theorem callNames {r : PH} {Rf : List PH} {l : List ByteArray} (hp : S.R.Perm (r :: Rf)) (h : NamesFn f args S.F r l) (next : ∀ v F' r', S.F.le F' → Row r' 9 1 v (l.map .string) → κ ⟨setk S.L d (.v v), S.M, F', r' :: Rf, S.nx⟩) : CallV Tryd.prog st f args d κ S :=
  CallV.gen (R1 := [r]) hp h fun v F' R' hF ⟨r', e, h1⟩ => by subst e; exact next v F' r' hF h1
end
theorem withinBs_snoc (l : List Bind) (b : Bind) : withinBs (l ++ [b]) = withinBs l ++ withinB b := by rw [withinBs_flat, withinBs_flat, List.flatMap_append]; simp
theorem withinLs_snoc (l : List Alt) (b : Alt) : withinLs (l ++ [b]) = withinLs l ++ withinL b := by rw [withinLs_flat, withinLs_flat, List.flatMap_append]; simp
theorem withinB_eq (b : Bind) : withinB b = lessL (within b.body) b.args := by cases b; rfl
theorem withinL_eq (a : Alt) : withinL a = if a.kind = 1 then lessL (within a.body) a.vars else if a.kind = 3 then lessL (within a.body) [a.name] else within a.body := by cases a; rfl
theorem sizeBs_take_at : ∀ (ls : List Bind) (k : Nat) (h : k < ls.length), sizeBs (ls.take k) + (ls[k]).size ≤ sizeBs ls ∧ ls.length + (ls[k]).size ≤ sizeBs ls + 1
  | [], k, h => nomatch h
  | b :: l, 0, h => by
    have := V.sizeBs_count l
    simp only [List.take_zero, sizeBs, List.getElem_cons_zero, List.length_cons]; omega
  | b :: l, k + 1, h => by
    obtain ⟨h1, h2⟩ := sizeBs_take_at l k (by simpa using h)
    have := V.bsize_eq b
    simp only [List.take_succ_cons, sizeBs, List.getElem_cons_succ, List.length_cons]; omega
theorem kid_eq : ∀ (l : List Exp) (h : 0 < l.length), withinKid l = within l[0]
  | [], h => nomatch h
  | e :: l, _ => by simp [withinKid]
theorem kid_nil : ∀ (l : List Exp), ¬ 0 < l.length → withinKid l = []
  | [], _ => rfl
  | _ :: _, h => absurd (Nat.zero_lt_succ _) h
def WalkOk (e : Exp) : Prop := ∀ (F r : PH) (v bv va vb ve vl : Value) (out bound : List ByteArray), ExpAt F e va vb ve vl → Strs F bv bound → Row r 9 1 v (out.map .string) → out.length + e.size ≤ 100000000 → bound.length + e.size ≤ 100000000 →
  NamesFn 121 [v, .agg (expCells e va vb ve vl).toArray, bv] F r (pushN bound (within e) out)
theorem walk_ok (e : Exp) (ih : ∀ e' : Exp, e'.size < e.size → WalkOk e') : WalkOk e := by
  intro F r v bv va vb ve vl out bound hX hb hr ho hbd
  have hX' := hX
  obtain ⟨pa, ca, pb, cb, pe, ce, pl, cl, rfl, rfl, rfl, rfl⟩ := hX.slices
  have hz := V.size_eq e
  refine Fn.intro (n := 146) (ts := [6]) Tryd.func121 rfl rfl rfl rfl (by simp) fun B hB => VC.go 2 ?_
  simp only [push_cast, ↓reduceIte, Nat.reduceEqDiff, Nat.reduceAdd, Nat.reduceMul, Nat.reduceSub, Nat.reduceLT, Nat.reduceLeDiff, reduceCtorEq, Nat.reduceMod, Int.reduceEq, Int.reduceLT, Int.reduceLE, Int.reduceToNat, dite_true]
  intro b
  rw [within_eq, pushN_once]
  refine VC.seq (VC.cutW (ι := PH × Value × PH) (fun j => [(0, .v j.2.1)]) (fun _ => []) (fun j => j.1) (fun j => [j.2.2]) (fun j => Row j.2.2 9 1 j.2.1 ((pushN bound (inner e) out).map .string)) (fun G hG => ?_) ?_)
  · refine VC.go 3 ?_
    simp only [push_cast, ↓reduceIte, Nat.reduceEqDiff, Nat.reduceAdd, Nat.reduceMul, Nat.reduceSub, Nat.reduceLT, Nat.reduceLeDiff, reduceCtorEq, Nat.reduceMod, Int.reduceEq, Int.reduceLT, Int.reduceLE, Int.reduceToNat, dite_true]
    refine VC.seq (VC.cutW (ι := Unit) (fun _ => [(16, .v (.bool (decide (e.kind = 1 ∨ e.kind = 2 ∨ e.kind = 3)))), (0, .v v), (2, .v bv), (4, .o 0 b 0), (15, .v (i64v e.kind))]) (fun _ => [⟨0, b, 49, expCells e (.slice pa e.atoms.length ca) (.slice pb e.binds.length cb) (.slice pe e.kids.length ce) (.slice pl e.alts.length cl)⟩]) (fun _ => F) (fun _ => [r]) (fun _ => True) (fun G2 hG2 => ?_) fun _ _ => ?_)
    · refine VC.go 100 ?_
      by_cases k1 : e.kind = 1
      · simp only [push_cast, ↓reduceIte, Nat.reduceEqDiff, Nat.reduceAdd, Nat.reduceMul, Nat.reduceSub, Nat.reduceLT, Nat.reduceLeDiff, reduceCtorEq, Nat.reduceMod, Int.reduceEq, Int.reduceLT, Int.reduceLE, Int.reduceToNat, dite_true, eq_true k1]
        exact hG2 () _ trivial (by simp [subk, Eng.look, k1]) (List.Sublist.refl _) rfl (subR_refl _)
      by_cases k2 : e.kind = 2
      · simp only [push_cast, ↓reduceIte, Nat.reduceEqDiff, Nat.reduceAdd, Nat.reduceMul, Nat.reduceSub, Nat.reduceLT, Nat.reduceLeDiff, reduceCtorEq, Nat.reduceMod, Int.reduceEq, Int.reduceLT, Int.reduceLE, Int.reduceToNat, dite_true, k1, eq_true k2]
        exact hG2 () _ trivial (by simp [subk, Eng.look, k2]) (List.Sublist.refl _) rfl (subR_refl _)
      by_cases k3 : e.kind = 3
      · simp only [push_cast, ↓reduceIte, Nat.reduceEqDiff, Nat.reduceAdd, Nat.reduceMul, Nat.reduceSub, Nat.reduceLT, Nat.reduceLeDiff, reduceCtorEq, Nat.reduceMod, Int.reduceEq, Int.reduceLT, Int.reduceLE, Int.reduceToNat, dite_true, k1, k2, eq_true k3]
        exact hG2 () _ trivial (by simp [subk, Eng.look, k3]) (List.Sublist.refl _) rfl (subR_refl _)
      · simp only [push_cast, ↓reduceIte, Nat.reduceEqDiff, Nat.reduceAdd, Nat.reduceMul, Nat.reduceSub, Nat.reduceLT, Nat.reduceLeDiff, reduceCtorEq, Nat.reduceMod, Int.reduceEq, Int.reduceLT, Int.reduceLE, Int.reduceToNat, dite_true, k1, k2, k3]
        exact hG2 () _ trivial (by simp [subk, Eng.look, k1, k2, k3]) (List.Sublist.refl _) rfl (subR_refl _)
    by_cases hk : e.kind = 1 ∨ e.kind = 2 ∨ e.kind = 3
    · have hkd : decide (e.kind = 1 ∨ e.kind = 2 ∨ e.kind = 3) = true := by simpa using hk
      refine VC.go 2 ?_
      simp only [push_cast, ↓reduceIte, Nat.reduceEqDiff, Nat.reduceAdd, Nat.reduceMul, Nat.reduceSub, Nat.reduceLT, Nat.reduceLeDiff, reduceCtorEq, Nat.reduceMod, Int.reduceEq, Int.reduceLT, Int.reduceLE, Int.reduceToNat, dite_true, hkd]
      refine VC.cutW (ι := PH × Value × PH) (fun j => [(0, .v j.2.1), (2, .v bv), (4, .o 0 b 0)]) (fun _ => [⟨0, b, 49, expCells e (.slice pa e.atoms.length ca) (.slice pb e.binds.length cb) (.slice pe e.kids.length ce) (.slice pl e.alts.length cl)⟩]) (fun j => j.1) (fun j => [j.2.2]) (fun j => F.le j.1 ∧ Row j.2.2 9 1 j.2.1 ((if e.kind = 1 then putN bound out e.name else out).map .string)) (fun G2 hG2 => ?_) ?_
      · refine VC.go 100 ?_
        by_cases k1 : e.kind = 1
        · simp only [push_cast, ↓reduceIte, Nat.reduceEqDiff, Nat.reduceAdd, Nat.reduceMul, Nat.reduceSub, Nat.reduceLT, Nat.reduceLeDiff, reduceCtorEq, Nat.reduceMod, Int.reduceEq, Int.reduceLT, Int.reduceLE, Int.reduceToNat, dite_true, eq_true k1]
          refine callNames (.refl _) (put10 F r v bv out bound e.name hr hb (by omega)) fun v1 F1 r1 hF1 hr1 => ?_
          simp only [push_cast, ↓reduceIte, Nat.reduceEqDiff, Nat.reduceAdd, Nat.reduceMul, Nat.reduceSub, Nat.reduceLT, Nat.reduceLeDiff, reduceCtorEq, Nat.reduceMod, Int.reduceEq, Int.reduceLT, Int.reduceLE, Int.reduceToNat, dite_true]
          exact hG2 (F1, v1, r1) _ ⟨hF1, by rw [if_pos k1]; exact hr1⟩ (by simp [subk, Eng.look]) (List.Sublist.refl _) rfl (subR_refl _)
        · simp only [push_cast, ↓reduceIte, Nat.reduceEqDiff, Nat.reduceAdd, Nat.reduceMul, Nat.reduceSub, Nat.reduceLT, Nat.reduceLeDiff, reduceCtorEq, Nat.reduceMod, Int.reduceEq, Int.reduceLT, Int.reduceLE, Int.reduceToNat, dite_true, k1]
          exact hG2 (F, v, r) _ ⟨PH.le_refl _, by rw [if_neg k1]; exact hr⟩ (by simp [subk, Eng.look]) (List.Sublist.refl _) rfl (subR_refl _)
      rintro ⟨F1, v1, r1⟩ ⟨hF1, hr1⟩
      dsimp only at hF1 hr1 ⊢
      obtain ⟨out1, hout1⟩ : ∃ o, o = if e.kind = 1 then putN bound out e.name else out := ⟨_, rfl⟩
      rw [← hout1] at hr1
      have ho1 : out1.length ≤ out.length + 1 := by
        rw [hout1]; split
        · unfold putN; split <;> simp
        · omega
      have hin : pushN bound (inner e) out = pushN bound (e.atoms.map Prod.fst) out1 := by
        rw [hout1]
        unfold inner
        by_cases k1 : e.kind = 1
        · rw [if_pos k1, if_pos k1, pushN_append, pushN_empty, pushN_atoms]; rfl
        · rw [if_neg k1, if_neg k1, if_pos (hk.resolve_left k1), pushN_atoms]
      have hal := V.sizeA_len e.atoms
      refine VC.go 100 ?_
      simp only [push_cast, ↓reduceIte, Nat.reduceEqDiff, Nat.reduceAdd, Nat.reduceMul, Nat.reduceSub, Nat.reduceLT, Nat.reduceLeDiff, reduceCtorEq, Nat.reduceMod, Int.reduceEq, Int.reduceLT, Int.reduceLE, Int.reduceToNat, dite_true]
      refine VC.loopW (ι := Nat × PH × Value × PH) (fun j => [(7, .v (i64v j.1)), (0, .v j.2.2.1), (2, .v bv), (4, .o 0 b 0)]) (fun _ => [⟨0, b, 49, expCells e (.slice pa e.atoms.length ca) (.slice pb e.binds.length cb) (.slice pe e.kids.length ce) (.slice pl e.alts.length cl)⟩]) (fun j => j.2.1) (fun j => [j.2.2.2]) (fun j => j.1 ≤ e.atoms.length ∧ F.le j.2.1 ∧ Row j.2.2.2 9 1 j.2.2.1 ((pushN bound ((e.atoms.take j.1).map Prod.fst) out1).map .string)) (fun j => e.atoms.length - j.1) (0, F1, v1, r1) ⟨Nat.zero_le _, hF1, hr1⟩ (by simp [subk, Eng.look]) (List.Sublist.refl _) rfl (subR_refl _) ?_
      rintro ⟨k, F2, v2, r2⟩ ⟨hkl, hF2, hr2⟩ G3 hG3
      dsimp only at hkl hF2 hr2 hG3 ⊢
      refine VC.go 100 ?_
      by_cases h : k < e.atoms.length
      case neg =>
        have h' : ¬ (k : Int) < (e.atoms.length : Int) := by omega
        simp only [push_cast, ↓reduceIte, Nat.reduceEqDiff, Nat.reduceAdd, Nat.reduceMul, Nat.reduceSub, Nat.reduceLT, Nat.reduceLeDiff, reduceCtorEq, Nat.reduceMod, Int.reduceEq, Int.reduceLT, Int.reduceLE, Int.reduceToNat, dite_true, h']
        rw [List.take_of_length_le (by omega)] at hr2
        exact hG (F2, v2, r2) _ (by rw [hin]; exact hr2) (by simp [subk, Eng.look]) (List.nil_sublist _) rfl (subR_refl _)
      have h' : (k : Int) < (e.atoms.length : Int) := by omega
      have h0 : (0 : Int) ≤ (k : Int) := by omega
      obtain ⟨_, _, e0, q1, q2, q3⟩ := (hX'.atoms)
      cases e0
      obtain ⟨a, rfl, ha⟩ := (q3.mono hF2).elem h (by decide)
      rw [atomVals_at e.atoms k h] at ha
      have ha0 := cell_at ha (o := 0) rfl
      have e2 : IntKind.i64.wrap ((k : Int) + 1) = ((k + 1 : Nat) : Int) := wadd k h (Nat.le_trans q1 q2)
      simp only [push_cast, ↓reduceIte, Nat.reduceEqDiff, Nat.reduceAdd, Nat.reduceMul, Nat.reduceSub, Nat.reduceLT, Nat.reduceLeDiff, reduceCtorEq, Nat.reduceMod, Int.reduceEq, Int.reduceLT, Int.reduceLE, Int.reduceToNat, dite_true, h', h0, ha0]
      have hpl := pushN_len bound ((e.atoms.take k).map Prod.fst) out1
      rw [List.length_map, List.length_take] at hpl
      refine callNames (.refl _) (put10 F2 r2 v2 bv _ bound (e.atoms[k]).1 hr2 (hb.mono hF2) (by omega)) fun v3 F3 r3 hF3 hr3 => ?_
      simp only [push_cast, ↓reduceIte, Nat.reduceEqDiff, Nat.reduceAdd, Nat.reduceMul, Nat.reduceSub, Nat.reduceLT, Nat.reduceLeDiff, reduceCtorEq, Nat.reduceMod, Int.reduceEq, Int.reduceLT, Int.reduceLE, Int.reduceToNat, dite_true, e2]
      refine hG3 (k + 1, F3, v3, r3) _ ⟨by omega, PH.le_trans hF2 hF3, ?_⟩ (by simp; omega) (by simp [subk, Eng.look]) (List.Sublist.refl _) rfl (subR_refl _)
      dsimp only
      rw [List.take_succ_eq_append_getElem h, List.map_append, pushN_append]
      exact hr3
    have hkd : decide (e.kind = 1 ∨ e.kind = 2 ∨ e.kind = 3) = false := by simpa using hk
    have k1 : ¬ e.kind = 1 := fun h => hk (.inl h)
    have k23 : ¬ (e.kind = 2 ∨ e.kind = 3) := fun h => hk (.inr h)
    refine VC.go 2 ?_
    simp only [push_cast, ↓reduceIte, Nat.reduceEqDiff, Nat.reduceAdd, Nat.reduceMul, Nat.reduceSub, Nat.reduceLT, Nat.reduceLeDiff, reduceCtorEq, Nat.reduceMod, Int.reduceEq, Int.reduceLT, Int.reduceLE, Int.reduceToNat, dite_true, hkd]
    by_cases k5 : e.kind = 5
    · have hin : pushN bound (inner e) out = pushN (bound ++ e.binds.map Bind.name) (withinKid e.kids) (pushN (bound ++ e.binds.map Bind.name) (withinBs e.binds) out) := by
        unfold inner
        rw [if_neg k1, if_neg k23, if_pos k5, pushN_less, pushN_append]
      have hbc := V.sizeBs_count e.binds
      refine VC.go 4 ?_
      simp only [push_cast, ↓reduceIte, Nat.reduceEqDiff, Nat.reduceAdd, Nat.reduceMul, Nat.reduceSub, Nat.reduceLT, Nat.reduceLeDiff, reduceCtorEq, Nat.reduceMod, Int.reduceEq, Int.reduceLT, Int.reduceLE, Int.reduceToNat, dite_true, eq_true k5]
      refine VC.seq (VC.cutW (ι := PH × Value) (fun j => [(8, .v j.2), (0, .v v), (2, .v bv), (4, .o 0 b 0)]) (fun _ => [⟨0, b, 49, expCells e (.slice pa e.atoms.length ca) (.slice pb e.binds.length cb) (.slice pe e.kids.length ce) (.slice pl e.alts.length cl)⟩]) (fun j => j.1) (fun _ => [r]) (fun j => F.le j.1 ∧ Strs j.1 j.2 (bound ++ e.binds.map Bind.name)) (fun G2 hG2 => ?_) ?_)
      · refine VC.go 100 ?_
        simp only [push_cast, ↓reduceIte, Nat.reduceEqDiff, Nat.reduceAdd, Nat.reduceMul, Nat.reduceSub, Nat.reduceLT, Nat.reduceLeDiff, reduceCtorEq, Nat.reduceMod, Int.reduceEq, Int.reduceLT, Int.reduceLE, Int.reduceToNat, dite_true]
        refine VC.loopW (ι := Nat × PH × Value) (fun j => [(9, .v (i64v j.1)), (8, .v j.2.2), (0, .v v), (2, .v bv), (4, .o 0 b 0)]) (fun _ => [⟨0, b, 49, expCells e (.slice pa e.atoms.length ca) (.slice pb e.binds.length cb) (.slice pe e.kids.length ce) (.slice pl e.alts.length cl)⟩]) (fun j => j.2.1) (fun _ => [r]) (fun j => j.1 ≤ e.binds.length ∧ F.le j.2.1 ∧ Strs j.2.1 j.2.2 (bound ++ (e.binds.take j.1).map Bind.name)) (fun j => e.binds.length - j.1) (0, F, bv) ⟨Nat.zero_le _, PH.le_refl _, by simpa using hb⟩ (by simp [subk, Eng.look]) (List.Sublist.refl _) rfl (subR_refl _) ?_
        rintro ⟨k, F2, v2⟩ ⟨hkl, hF2, hv2⟩ G3 hG3
        dsimp only at hkl hF2 hv2 hG3 ⊢
        refine VC.go 100 ?_
        by_cases h : k < e.binds.length
        case neg =>
          have h' : ¬ (k : Int) < (e.binds.length : Int) := by omega
          simp only [push_cast, ↓reduceIte, Nat.reduceEqDiff, Nat.reduceAdd, Nat.reduceMul, Nat.reduceSub, Nat.reduceLT, Nat.reduceLeDiff, reduceCtorEq, Nat.reduceMod, Int.reduceEq, Int.reduceLT, Int.reduceLE, Int.reduceToNat, dite_true, h']
          rw [List.take_of_length_le (by omega)] at hv2
          exact hG2 (F2, v2) _ ⟨hF2, hv2⟩ (by simp [subk, Eng.look]) (List.Sublist.refl _) rfl (subR_refl _)
        have h' : (k : Int) < (e.binds.length : Int) := by omega
        have h0 : (0 : Int) ≤ (k : Int) := by omega
        obtain ⟨q, _, cs, eq, q1, q2, kl, kr⟩ := (hX'.binds.mono (R' := RBind F2) hF2 (fun _ _ _ h => h.mono hF2)).elem (by decide) (i := k) (a := e.binds[k]) (List.getElem?_eq_getElem h) (fun _ _ h => h.len)
        cases eq
        obtain ⟨va2, c2, rfl, hva, hvc⟩ := RBind_iff.1 kr
        have kc := cell_at kl (o := 0) rfl
        have e2 : IntKind.i64.wrap ((k : Int) + 1) = ((k + 1 : Nat) : Int) := wadd k h (Nat.le_trans q1 q2)
        simp only [push_cast, ↓reduceIte, Nat.reduceEqDiff, Nat.reduceAdd, Nat.reduceMul, Nat.reduceSub, Nat.reduceLT, Nat.reduceLeDiff, reduceCtorEq, Nat.reduceMod, Int.reduceEq, Int.reduceLT, Int.reduceLE, Int.reduceToNat, dite_true, h', h0, kc]
        intro b2 F3 hF3 hb3
        refine callStrs (with10 F3 _ _ _ [(e.binds[k]).name] (hv2.mono hF3) ⟨_, _, rfl, Nat.le_refl _, by decide, Src.blk hb3 rfl⟩ (by simp; omega)) fun v4 F4 hF4 hv4 => ?_
        simp only [push_cast, ↓reduceIte, Nat.reduceEqDiff, Nat.reduceAdd, Nat.reduceMul, Nat.reduceSub, Nat.reduceLT, Nat.reduceLeDiff, reduceCtorEq, Nat.reduceMod, Int.reduceEq, Int.reduceLT, Int.reduceLE, Int.reduceToNat, dite_true, e2]
        refine hG3 (k + 1, F4, v4) _ ⟨by omega, PH.le_trans hF2 (PH.le_trans hF3 hF4), ?_⟩ (by simp; omega) (by simp [subk, Eng.look]) (List.Sublist.refl _) rfl (subR_refl _)
        dsimp only
        rw [List.take_succ_eq_append_getElem h, List.map_append, ← List.append_assoc]
        exact hv4
      rintro ⟨F1, v8⟩ ⟨hF1, hv8⟩
      dsimp only at hF1 hv8 ⊢
      refine VC.seq (VC.cutW (ι := PH × Value × PH) (fun j => [(8, .v v8), (0, .v j.2.1), (2, .v bv), (4, .o 0 b 0)]) (fun _ => [⟨0, b, 49, expCells e (.slice pa e.atoms.length ca) (.slice pb e.binds.length cb) (.slice pe e.kids.length ce) (.slice pl e.alts.length cl)⟩]) (fun j => j.1) (fun j => [j.2.2]) (fun j => F1.le j.1 ∧ Row j.2.2 9 1 j.2.1 ((pushN (bound ++ e.binds.map Bind.name) (withinBs e.binds) out).map .string)) (fun G2 hG2 => ?_) ?_)
      · refine VC.go 100 ?_
        simp only [push_cast, ↓reduceIte, Nat.reduceEqDiff, Nat.reduceAdd, Nat.reduceMul, Nat.reduceSub, Nat.reduceLT, Nat.reduceLeDiff, reduceCtorEq, Nat.reduceMod, Int.reduceEq, Int.reduceLT, Int.reduceLE, Int.reduceToNat, dite_true]
        refine VC.loopW (ι := Nat × PH × Value × PH) (fun j => [(10, .v (i64v j.1)), (8, .v v8), (0, .v j.2.2.1), (2, .v bv), (4, .o 0 b 0)]) (fun _ => [⟨0, b, 49, expCells e (.slice pa e.atoms.length ca) (.slice pb e.binds.length cb) (.slice pe e.kids.length ce) (.slice pl e.alts.length cl)⟩]) (fun j => j.2.1) (fun j => [j.2.2.2]) (fun j => j.1 ≤ e.binds.length ∧ F1.le j.2.1 ∧ Row j.2.2.2 9 1 j.2.2.1 ((pushN (bound ++ e.binds.map Bind.name) (withinBs (e.binds.take j.1)) out).map .string)) (fun j => e.binds.length - j.1) (0, F1, v, r) ⟨Nat.zero_le _, PH.le_refl _, hr⟩ (by simp [subk, Eng.look]) (List.Sublist.refl _) rfl (subR_refl _) ?_
        rintro ⟨k, F2, v2, r2⟩ ⟨hkl, hF2, hr2⟩ G3 hG3
        dsimp only at hkl hF2 hr2 hG3 ⊢
        refine VC.go 100 ?_
        by_cases h : k < e.binds.length
        case neg =>
          have h' : ¬ (k : Int) < (e.binds.length : Int) := by omega
          simp only [push_cast, ↓reduceIte, Nat.reduceEqDiff, Nat.reduceAdd, Nat.reduceMul, Nat.reduceSub, Nat.reduceLT, Nat.reduceLeDiff, reduceCtorEq, Nat.reduceMod, Int.reduceEq, Int.reduceLT, Int.reduceLE, Int.reduceToNat, dite_true, h']
          rw [List.take_of_length_le (by omega)] at hr2
          exact hG2 (F2, v2, r2) _ ⟨hF2, hr2⟩ (by simp [subk, Eng.look]) (List.Sublist.refl _) rfl (subR_refl _)
        have h' : (k : Int) < (e.binds.length : Int) := by omega
        have h0 : (0 : Int) ≤ (k : Int) := by omega
        have hFF2 := PH.le_trans hF1 hF2
        obtain ⟨q, _, cs, eq, q1, q2, kl, kr⟩ := (hX'.binds.mono (R' := RBind F2) hFF2 (fun _ _ _ h => h.mono hFF2)).elem (by decide) (i := k) (a := e.binds[k]) (List.getElem?_eq_getElem h) (fun _ _ h => h.len)
        cases eq
        obtain ⟨va2, c2, rfl, hva, hvc⟩ := RBind_iff.1 kr
        obtain ⟨wa, wb, we, wl, rfl, wx⟩ := RExp_iff.1 hvc
        have kc : F2.cell (q.add (k * 11 + 2)) = some va2 := by have := cell_at kl (o := 2) rfl; rw [add_add] at this; exact this
        have kb : F2.cells (q.add (k * 11 + 2 + 1)) 8 = some (expCells (e.binds[k]).body wa wb we wl) := by have := cells_sub kl (o := 3) (m := 8) (by omega); rw [add_add] at this; exact this
        have hsm := V.sizeBs_mem (List.getElem_mem h)
        have hbq := V.bsize_eq (e.binds[k])
        have hsl := sizeS_len' (e.binds[k]).args
        have hws := withinBs_len (e.binds.take k)
        obtain ⟨hst, hst2⟩ := sizeBs_take_at e.binds k h
        have hpl := pushN_len (bound ++ e.binds.map Bind.name) (withinBs (e.binds.take k)) out
        have e2 : IntKind.i64.wrap ((k : Int) + 1) = ((k + 1 : Nat) : Int) := wadd k h (Nat.le_trans q1 q2)
        simp only [push_cast, ↓reduceIte, Nat.reduceEqDiff, Nat.reduceAdd, Nat.reduceMul, Nat.reduceSub, Nat.reduceLT, Nat.reduceLeDiff, reduceCtorEq, Nat.reduceMod, Int.reduceEq, Int.reduceLT, Int.reduceLE, Int.reduceToNat, dite_true, h', h0]
        refine VC.draw (.q 0 (.q 1 (.q 2 (.q 3 (.q 4 (.q 5 (.q 6 (.q 7 (.q 8 (.q 9 (.q 10 (.q 11 (.q 12 (.q 13 (.q 14 (.q 15 (.e 16 (.e 17 (.e 18 (.done)))))))))))))))))))) mixed (by rfl) ?_
        simp only [push_cast, ↓reduceIte, Nat.reduceEqDiff, Nat.reduceAdd, Nat.reduceMul, Nat.reduceSub, Nat.reduceLT, Nat.reduceLeDiff, reduceCtorEq, Nat.reduceMod, Int.reduceEq, Int.reduceLT, Int.reduceLE, Int.reduceToNat, dite_true, h', h0, kc, kb, add_add]
        refine callStrs (with10 F2 _ _ _ (e.binds[k]).args (hv8.mono hF2) hva (by simp; omega)) fun v4 F4 hF4 hv4 => ?_
        simp only [push_cast, ↓reduceIte, Nat.reduceEqDiff, Nat.reduceAdd, Nat.reduceMul, Nat.reduceSub, Nat.reduceLT, Nat.reduceLeDiff, reduceCtorEq, Nat.reduceMod, Int.reduceEq, Int.reduceLT, Int.reduceLE, Int.reduceToNat, dite_true]
        refine callNames (.refl _) (ih (e.binds[k]).body (by omega) F4 r2 v2 v4 _ _ _ _ _ _ (wx.mono hF4) hv4 hr2 (by omega) (by simp; omega)) fun v5 F5 r5 hF5 hr5 => ?_
        simp only [push_cast, ↓reduceIte, Nat.reduceEqDiff, Nat.reduceAdd, Nat.reduceMul, Nat.reduceSub, Nat.reduceLT, Nat.reduceLeDiff, reduceCtorEq, Nat.reduceMod, Int.reduceEq, Int.reduceLT, Int.reduceLE, Int.reduceToNat, dite_true]
        refine VC.go 100 ?_
        simp only [push_cast, ↓reduceIte, Nat.reduceEqDiff, Nat.reduceAdd, Nat.reduceMul, Nat.reduceSub, Nat.reduceLT, Nat.reduceLeDiff, reduceCtorEq, Nat.reduceMod, Int.reduceEq, Int.reduceLT, Int.reduceLE, Int.reduceToNat, dite_true, e2]
        refine hG3 (k + 1, F5, v5, r5) _ ⟨by omega, PH.le_trans hF2 (PH.le_trans hF4 hF5), ?_⟩ (by simp; omega) (by simp [subk, Eng.look]) (List.Sublist.refl _) rfl (subR_refl _)
        dsimp only
        rw [List.take_succ_eq_append_getElem h, withinBs_snoc, pushN_append, withinB_eq, pushN_less]
        exact hr5
      rintro ⟨F2, v2, r2⟩ ⟨hF2, hr2⟩
      dsimp only at hF2 hr2 ⊢
      have hws := withinBs_len e.binds
      have hpl := pushN_len (bound ++ e.binds.map Bind.name) (withinBs e.binds) out
      refine VC.go 100 ?_
      by_cases hke : 0 < e.kids.length
      case neg =>
        have h' : ¬ (0 : Int) < (e.kids.length : Int) := by omega
        have hnil : e.kids = [] := List.length_eq_zero_iff.1 (by omega)
        simp only [push_cast, ↓reduceIte, Nat.reduceEqDiff, Nat.reduceAdd, Nat.reduceMul, Nat.reduceSub, Nat.reduceLT, Nat.reduceLeDiff, reduceCtorEq, Nat.reduceMod, Int.reduceEq, Int.reduceLT, Int.reduceLE, Int.reduceToNat, dite_true, h']
        exact hG (F2, v2, r2) _ (by rw [hin, hnil]; exact hr2) (by simp [subk, Eng.look]) (List.nil_sublist _) rfl (subR_refl _)
      have h' : (0 : Int) < (e.kids.length : Int) := by omega
      have hFF2 := PH.le_trans hF1 hF2
      obtain ⟨q, _, cs, eq, q1, q2, kl, kr⟩ := (hX'.kids.mono (R' := RExp F2) hFF2 (fun _ _ _ h => h.mono hFF2)).elem (by decide) (i := 0) (a := e.kids[0]) (List.getElem?_eq_getElem hke) (fun _ _ h => h.len)
      cases eq
      obtain ⟨wa, wb, we, wl, rfl, wx⟩ := RExp_iff.1 kr
      have hsk := V.sizeEs_mem (List.getElem_mem hke)
      have hkid := kid_eq e.kids hke
      rw [Nat.zero_mul, add_zero'] at kl
      simp only [push_cast, ↓reduceIte, Nat.reduceEqDiff, Nat.reduceAdd, Nat.reduceMul, Nat.reduceSub, Nat.reduceLT, Nat.reduceLeDiff, reduceCtorEq, Nat.reduceMod, Int.reduceEq, Int.reduceLT, Int.reduceLE, Int.reduceToNat, dite_true, h', kl, Nat.zero_mul, add_zero']
      refine callNames (.refl _) (ih e.kids[0] (by omega) F2 r2 v2 v8 _ _ _ _ _ _ wx (hv8.mono hF2) hr2 (by omega) (by simp; omega)) fun v5 F5 r5 hF5 hr5 => ?_
      simp only [push_cast, ↓reduceIte, Nat.reduceEqDiff, Nat.reduceAdd, Nat.reduceMul, Nat.reduceSub, Nat.reduceLT, Nat.reduceLeDiff, reduceCtorEq, Nat.reduceMod, Int.reduceEq, Int.reduceLT, Int.reduceLE, Int.reduceToNat, dite_true]
      exact hG (F5, v5, r5) _ (by rw [hin, hkid]; exact hr5) (by simp [subk, Eng.look]) (List.nil_sublist _) rfl (subR_refl _)
    by_cases k6 : e.kind = 6
    case neg =>
      refine VC.go 100 ?_
      simp only [push_cast, ↓reduceIte, Nat.reduceEqDiff, Nat.reduceAdd, Nat.reduceMul, Nat.reduceSub, Nat.reduceLT, Nat.reduceLeDiff, reduceCtorEq, Nat.reduceMod, Int.reduceEq, Int.reduceLT, Int.reduceLE, Int.reduceToNat, dite_true, k5, k6]
      exact hG (F, v, r) _ (by unfold inner; rw [if_neg k1, if_neg k23, if_neg k5, if_neg k6]; exact hr) (by simp [subk, Eng.look]) (List.nil_sublist _) rfl (subR_refl _)
    have hin : pushN bound (inner e) out = pushN bound (withinLs e.alts) (pushN bound (withinKid e.kids) out) := by
      unfold inner
      rw [if_neg k1, if_neg k23, if_neg k5, if_pos k6, pushN_append]
    have hwk := withinKid_len e.kids
    have hpk := pushN_len bound (withinKid e.kids) out
    refine VC.go 6 ?_
    simp only [push_cast, ↓reduceIte, Nat.reduceEqDiff, Nat.reduceAdd, Nat.reduceMul, Nat.reduceSub, Nat.reduceLT, Nat.reduceLeDiff, reduceCtorEq, Nat.reduceMod, Int.reduceEq, Int.reduceLT, Int.reduceLE, Int.reduceToNat, dite_true, k5, eq_true k6]
    refine VC.cutW (ι := PH × Value × PH) (fun j => [(0, .v j.2.1), (2, .v bv), (4, .o 0 b 0)]) (fun _ => [⟨0, b, 49, expCells e (.slice pa e.atoms.length ca) (.slice pb e.binds.length cb) (.slice pe e.kids.length ce) (.slice pl e.alts.length cl)⟩]) (fun j => j.1) (fun j => [j.2.2]) (fun j => F.le j.1 ∧ Row j.2.2 9 1 j.2.1 ((pushN bound (withinKid e.kids) out).map .string)) (fun G2 hG2 => ?_) ?_
    · refine VC.go 100 ?_
      by_cases hke : 0 < e.kids.length
      case neg =>
        have h' : ¬ (0 : Int) < (e.kids.length : Int) := by omega
        simp only [push_cast, ↓reduceIte, Nat.reduceEqDiff, Nat.reduceAdd, Nat.reduceMul, Nat.reduceSub, Nat.reduceLT, Nat.reduceLeDiff, reduceCtorEq, Nat.reduceMod, Int.reduceEq, Int.reduceLT, Int.reduceLE, Int.reduceToNat, dite_true, h']
        exact hG2 (F, v, r) _ ⟨PH.le_refl _, by rw [kid_nil e.kids hke]; exact hr⟩ (by simp [subk, Eng.look]) (List.Sublist.refl _) rfl (subR_refl _)
      have h' : (0 : Int) < (e.kids.length : Int) := by omega
      obtain ⟨q, _, cs, eq, q1, q2, kl, kr⟩ := hX'.kids.elem (by decide) (i := 0) (a := e.kids[0]) (List.getElem?_eq_getElem hke) (fun _ _ h => h.len)
      cases eq
      obtain ⟨wa, wb, we, wl, rfl, wx⟩ := RExp_iff.1 kr
      have hsk := V.sizeEs_mem (List.getElem_mem hke)
      rw [Nat.zero_mul, add_zero'] at kl
      simp only [push_cast, ↓reduceIte, Nat.reduceEqDiff, Nat.reduceAdd, Nat.reduceMul, Nat.reduceSub, Nat.reduceLT, Nat.reduceLeDiff, reduceCtorEq, Nat.reduceMod, Int.reduceEq, Int.reduceLT, Int.reduceLE, Int.reduceToNat, dite_true, h', kl, Nat.zero_mul, add_zero']
      refine callNames (.refl _) (ih e.kids[0] (by omega) F r v bv _ _ _ _ _ _ wx hb hr (by omega) (by omega)) fun v5 F5 r5 hF5 hr5 => ?_
      simp only [push_cast, ↓reduceIte, Nat.reduceEqDiff, Nat.reduceAdd, Nat.reduceMul, Nat.reduceSub, Nat.reduceLT, Nat.reduceLeDiff, reduceCtorEq, Nat.reduceMod, Int.reduceEq, Int.reduceLT, Int.reduceLE, Int.reduceToNat, dite_true]
      exact hG2 (F5, v5, r5) _ ⟨hF5, by rw [kid_eq e.kids hke]; exact hr5⟩ (by simp [subk, Eng.look]) (List.Sublist.refl _) rfl (subR_refl _)
    rintro ⟨F1, v1, r1⟩ ⟨hF1, hr1⟩
    dsimp only at hF1 hr1 ⊢
    refine VC.go 100 ?_
    simp only [push_cast, ↓reduceIte, Nat.reduceEqDiff, Nat.reduceAdd, Nat.reduceMul, Nat.reduceSub, Nat.reduceLT, Nat.reduceLeDiff, reduceCtorEq, Nat.reduceMod, Int.reduceEq, Int.reduceLT, Int.reduceLE, Int.reduceToNat, dite_true]
    refine VC.loopW (ι := Nat × PH × Value × PH) (fun j => [(11, .v (i64v j.1)), (0, .v j.2.2.1), (2, .v bv), (4, .o 0 b 0)]) (fun _ => [⟨0, b, 49, expCells e (.slice pa e.atoms.length ca) (.slice pb e.binds.length cb) (.slice pe e.kids.length ce) (.slice pl e.alts.length cl)⟩]) (fun j => j.2.1) (fun j => [j.2.2.2]) (fun j => j.1 ≤ e.alts.length ∧ F.le j.2.1 ∧ Row j.2.2.2 9 1 j.2.2.1 ((pushN bound (withinLs (e.alts.take j.1)) (pushN bound (withinKid e.kids) out)).map .string)) (fun j => e.alts.length - j.1) (0, F1, v1, r1) ⟨Nat.zero_le _, hF1, hr1⟩ (by simp [subk, Eng.look]) (List.Sublist.refl _) rfl (subR_refl _) ?_
    rintro ⟨k, F2, v2, r2⟩ ⟨hkl, hF2, hr2⟩ G3 hG3
    dsimp only at hkl hF2 hr2 hG3 ⊢
    by_cases h : k < e.alts.length
    case neg =>
      have h' : ¬ (k : Int) < (e.alts.length : Int) := by omega
      refine VC.go 100 ?_
      simp only [push_cast, ↓reduceIte, Nat.reduceEqDiff, Nat.reduceAdd, Nat.reduceMul, Nat.reduceSub, Nat.reduceLT, Nat.reduceLeDiff, reduceCtorEq, Nat.reduceMod, Int.reduceEq, Int.reduceLT, Int.reduceLE, Int.reduceToNat, dite_true, h']
      rw [List.take_of_length_le (by omega)] at hr2
      exact hG (F2, v2, r2) _ (by rw [hin]; exact hr2) (by simp [subk, Eng.look]) (List.nil_sublist _) rfl (subR_refl _)
    have h' : (k : Int) < (e.alts.length : Int) := by omega
    have h0 : (0 : Int) ≤ (k : Int) := by omega
    obtain ⟨q, _, cs, eq, q1, q2, kl, kr⟩ := (hX'.alts.mono (R' := RAlt F2) hF2 (fun _ _ _ h => h.mono hF2)).elem (by decide) (i := k) (a := e.alts[k]) (List.getElem?_eq_getElem h) (fun _ _ h => h.len)
    cases eq
    obtain ⟨va2, c2, rfl, hva, hvc⟩ := RAlt_iff.1 kr
    obtain ⟨wa, wb, we, wl, rfl, wx⟩ := RExp_iff.1 hvc
    have e2 : IntKind.i64.wrap ((k : Int) + 1) = ((k + 1 : Nat) : Int) := wadd k h (Nat.le_trans q1 q2)
    have wx' := wx
    obtain ⟨pa2, ca2, pb2, cb2, pe2, ce2, pl2, cl2, rfl, rfl, rfl, rfl⟩ := wx.slices
    have hva' := hva
    obtain ⟨pv, cv, rfl, _, _, _⟩ := hva
    have hst := W.sizeLs_take_at e.alts k h
    have haq := V.asize_eq (e.alts[k])
    have hsl := sizeS_len' (e.alts[k]).vars
    have hws := withinLs_len (e.alts.take k)
    have hpl := pushN_len bound (withinLs (e.alts.take k)) (pushN bound (withinKid e.kids) out)
    obtain ⟨inn, hinn⟩ : ∃ l, l = if (e.alts[k]).kind = 1 then bound ++ (e.alts[k]).vars else if (e.alts[k]).kind = 3 then bound ++ [(e.alts[k]).name] else bound := ⟨_, rfl⟩
    have hpush : ∀ o, pushN bound (withinL (e.alts[k])) o = pushN inn (within (e.alts[k]).body) o := fun o => by
      rw [hinn, withinL_eq]
      by_cases a1 : (e.alts[k]).kind = 1
      · rw [if_pos a1, if_pos a1, pushN_less]
      by_cases a3 : (e.alts[k]).kind = 3
      · rw [if_neg a1, if_neg a1, if_pos a3, if_pos a3, pushN_less]
      · rw [if_neg a1, if_neg a1, if_neg a3, if_neg a3]
    have hil : inn.length ≤ bound.length + 1 + (e.alts[k]).vars.length := by
      rw [hinn]; split
      · rw [List.length_append]; omega
      · split
        · rw [List.length_append, List.length_singleton]; omega
        · omega
    have fin : ∀ (F3 F4 : PH) (v3 v4 : Value), F2.le F3 → Strs F3 v3 inn → NamesFn 121 [v2, .agg (expCells (e.alts[k]).body (.slice pa2 (e.alts[k]).body.atoms.length ca2) (.slice pb2 (e.alts[k]).body.binds.length cb2) (.slice pe2 (e.alts[k]).body.kids.length ce2) (.slice pl2 (e.alts[k]).body.alts.length cl2)).toArray, v3] F3 r2 (pushN inn (within (e.alts[k]).body) (pushN bound (withinLs (e.alts.take k)) (pushN bound (withinKid e.kids) out))) := fun F3 F4 v3 v4 hF3 hv3 =>
      ih (e.alts[k]).body (by omega) F3 r2 v2 v3 _ _ _ _ _ _ (wx'.mono hF3) hv3 hr2 (by omega) (by omega)
    have hsnoc : pushN bound (withinLs (e.alts.take (k + 1))) (pushN bound (withinKid e.kids) out) = pushN inn (within (e.alts[k]).body) (pushN bound (withinLs (e.alts.take k)) (pushN bound (withinKid e.kids) out)) := by
      rw [List.take_succ_eq_append_getElem h, withinLs_snoc, pushN_append, hpush]
    refine VC.go 100 ?_
    by_cases a1 : (e.alts[k]).kind = 1
    · have a3 : ¬ (e.alts[k]).kind = 3 := by omega
      rw [if_pos a1] at hinn
      simp only [push_cast, ↓reduceIte, Nat.reduceEqDiff, Nat.reduceAdd, Nat.reduceMul, Nat.reduceSub, Nat.reduceLT, Nat.reduceLeDiff, reduceCtorEq, Nat.reduceMod, Int.reduceEq, Int.reduceLT, Int.reduceLE, Int.reduceToNat, dite_true, h', h0, kl, expCells, eq_true a1, a3]
      intro b9
      refine callStrs (with10 F2 _ _ bound (e.alts[k]).vars (hb.mono hF2) hva' (by omega)) fun v4 F4 hF4 hv4 => ?_
      rw [← hinn] at hv4
      simp only [push_cast, ↓reduceIte, Nat.reduceEqDiff, Nat.reduceAdd, Nat.reduceMul, Nat.reduceSub, Nat.reduceLT, Nat.reduceLeDiff, reduceCtorEq, Nat.reduceMod, Int.reduceEq, Int.reduceLT, Int.reduceLE, Int.reduceToNat, dite_true, eq_true a1, a3]
      refine callNames (.refl _) (fin F4 F4 v4 v4 hF4 hv4) fun v5 F5 r5 hF5 hr5 => ?_
      simp only [push_cast, ↓reduceIte, Nat.reduceEqDiff, Nat.reduceAdd, Nat.reduceMul, Nat.reduceSub, Nat.reduceLT, Nat.reduceLeDiff, reduceCtorEq, Nat.reduceMod, Int.reduceEq, Int.reduceLT, Int.reduceLE, Int.reduceToNat, dite_true, e2]
      exact hG3 (k + 1, F5, v5, r5) _ ⟨by omega, PH.le_trans hF2 (PH.le_trans hF4 hF5), by dsimp only; rw [hsnoc]; exact hr5⟩ (by simp; omega) (by simp [subk, Eng.look]) (List.sublist_append_left [_] [_]) rfl (subR_refl _)
    by_cases a3 : (e.alts[k]).kind = 3
    · rw [if_neg a1, if_pos a3] at hinn
      simp only [push_cast, ↓reduceIte, Nat.reduceEqDiff, Nat.reduceAdd, Nat.reduceMul, Nat.reduceSub, Nat.reduceLT, Nat.reduceLeDiff, reduceCtorEq, Nat.reduceMod, Int.reduceEq, Int.reduceLT, Int.reduceLE, Int.reduceToNat, dite_true, h', h0, kl, expCells, a1, eq_true a3]
      intro b9
      intro b10 F3 hF3 hb10
      refine callStrs (with10 F3 _ _ bound [(e.alts[k]).name] (hb.mono (PH.le_trans hF2 hF3)) ⟨_, _, rfl, Nat.le_refl _, by decide, Src.blk hb10 rfl⟩ (by simp; omega)) fun v4 F4 hF4 hv4 => ?_
      rw [← hinn] at hv4
      simp only [push_cast, ↓reduceIte, Nat.reduceEqDiff, Nat.reduceAdd, Nat.reduceMul, Nat.reduceSub, Nat.reduceLT, Nat.reduceLeDiff, reduceCtorEq, Nat.reduceMod, Int.reduceEq, Int.reduceLT, Int.reduceLE, Int.reduceToNat, dite_true, a1, eq_true a3]
      refine callNames (.refl _) (fin F4 F4 v4 v4 (PH.le_trans hF3 hF4) hv4) fun v5 F5 r5 hF5 hr5 => ?_
      simp only [push_cast, ↓reduceIte, Nat.reduceEqDiff, Nat.reduceAdd, Nat.reduceMul, Nat.reduceSub, Nat.reduceLT, Nat.reduceLeDiff, reduceCtorEq, Nat.reduceMod, Int.reduceEq, Int.reduceLT, Int.reduceLE, Int.reduceToNat, dite_true, e2]
      exact hG3 (k + 1, F5, v5, r5) _ ⟨by omega, PH.le_trans hF2 (PH.le_trans hF3 (PH.le_trans hF4 hF5)), by dsimp only; rw [hsnoc]; exact hr5⟩ (by simp; omega) (by simp [subk, Eng.look]) (List.sublist_append_left [_] [_]) rfl (subR_refl _)
    · rw [if_neg a1, if_neg a3] at hinn
      simp only [push_cast, ↓reduceIte, Nat.reduceEqDiff, Nat.reduceAdd, Nat.reduceMul, Nat.reduceSub, Nat.reduceLT, Nat.reduceLeDiff, reduceCtorEq, Nat.reduceMod, Int.reduceEq, Int.reduceLT, Int.reduceLE, Int.reduceToNat, dite_true, h', h0, kl, expCells, a1, a3]
      intro b9
      refine callNames (.refl _) (fin F2 F2 bv bv (PH.le_refl _) (by rw [hinn]; exact hb.mono hF2)) fun v5 F5 r5 hF5 hr5 => ?_
      simp only [push_cast, ↓reduceIte, Nat.reduceEqDiff, Nat.reduceAdd, Nat.reduceMul, Nat.reduceSub, Nat.reduceLT, Nat.reduceLeDiff, reduceCtorEq, Nat.reduceMod, Int.reduceEq, Int.reduceLT, Int.reduceLE, Int.reduceToNat, dite_true, e2]
      exact hG3 (k + 1, F5, v5, r5) _ ⟨by omega, PH.le_trans hF2 hF5, by dsimp only; rw [hsnoc]; exact hr5⟩ (by simp; omega) (by simp [subk, Eng.look]) (List.sublist_append_left [_] [_]) rfl (subR_refl _)
  rintro ⟨F1, v1, r1⟩ h1
  dsimp only at h1 ⊢
  refine VC.go 100 ?_
  simp only [push_cast, ↓reduceIte, Nat.reduceEqDiff, Nat.reduceAdd, Nat.reduceMul, Nat.reduceSub, Nat.reduceLT, Nat.reduceLeDiff, reduceCtorEq, Nat.reduceMod, Int.reduceEq, Int.reduceLT, Int.reduceLE, Int.reduceToNat, dite_true]
  exact RetOk.r (vs := [_]) rfl (RetR.refl _) ⟨r1, rfl, h1⟩
theorem walk_all (n : Nat) : ∀ e : Exp, e.size = n → WalkOk e := by
  induction n using Nat.strongRecOn with
  | _ n ih => exact fun e he => walk_ok e fun e' h => ih e'.size (by omega) e' rfl
theorem within10 (F : PH) (e : Exp) (va vb ve vl : Value) (hX : ExpAt F e va vb ve vl) (hs : e.size ≤ 100000000) : RowS Tryd.prog 99 [.agg (expCells e va vb ve vl).toArray] F (within e) := by
  have hX' := hX
  obtain ⟨pa, ca, pb, cb, pe, ce, pl, cl, rfl, rfl, rfl, rfl⟩ := hX.slices
  refine Fn.intro (n := 5) (ts := [2]) Tryd.func99 rfl rfl rfl rfl (by simp) fun B hB => VC.emp (VC.go 100 ?_)
  simp only [push_cast, ↓reduceIte, Nat.reduceEqDiff, Nat.reduceAdd, Nat.reduceMul, Nat.reduceSub, Nat.reduceLT, Nat.reduceLeDiff, reduceCtorEq, Nat.reduceMod, Int.reduceEq, Int.reduceLT, Int.reduceLE, Int.reduceToNat, dite_true]
  intro b
  refine callNames (.refl _) (walk_all _ e rfl F PH.emp _ _ _ _ _ _ [] [] hX' (nil_strs _) (Row.nil _ _) (by simpa using hs) (by simpa using hs)) fun v5 F5 r5 hF5 hr5 => ?_
  simp only [push_cast, ↓reduceIte, Nat.reduceEqDiff, Nat.reduceAdd, Nat.reduceMul, Nat.reduceSub, Nat.reduceLT, Nat.reduceLeDiff, reduceCtorEq, Nat.reduceMod, Int.reduceEq, Int.reduceLT, Int.reduceLE, Int.reduceToNat, dite_true]
  exact ⟨_, [r5], rfl, RetR.refl _, r5, rfl, by rw [push_within, lessL_nil] at hr5; exact hr5⟩
theorem free10 (F : PH) (f : List ByteArray × Exp) (v va vb ve vl : Value) (hv : Strs F v f.1) (hX : ExpAt F f.2 va vb ve vl) (hs : f.1.length + f.2.size ≤ 100000000) : RowS Tryd.prog 97 [.agg (v :: expCells f.2 va vb ve vl).toArray] F (lessL (within f.2) f.1) := by
  have hX' := hX
  have hv' := hv
  obtain ⟨pa, ca, pb, cb, pe, ce, pl, cl, rfl, rfl, rfl, rfl⟩ := hX.slices
  obtain ⟨pv, cv, rfl, _, _, _⟩ := hv
  refine Fn.intro (n := 8) (ts := [2]) Tryd.func97 rfl rfl rfl rfl (by simp) fun B hB => VC.emp (VC.go 100 ?_)
  simp only [push_cast, ↓reduceIte, Nat.reduceEqDiff, Nat.reduceAdd, Nat.reduceMul, Nat.reduceSub, Nat.reduceLT, Nat.reduceLeDiff, reduceCtorEq, Nat.reduceMod, Int.reduceEq, Int.reduceLT, Int.reduceLE, Int.reduceToNat, dite_true, expCells]
  intro b
  refine callNames (.refl _) (walk_all _ f.2 rfl F PH.emp _ _ _ _ _ _ [] f.1 hX' hv' (Row.nil _ _) (by simp; omega) hs) fun v5 F5 r5 hF5 hr5 => ?_
  simp only [push_cast, ↓reduceIte, Nat.reduceEqDiff, Nat.reduceAdd, Nat.reduceMul, Nat.reduceSub, Nat.reduceLT, Nat.reduceLeDiff, reduceCtorEq, Nat.reduceMod, Int.reduceEq, Int.reduceLT, Int.reduceLE, Int.reduceToNat, dite_true]
  exact ⟨_, [r5], rfl, RetR.refl _, r5, rfl, by rw [push_within] at hr5; exact hr5⟩
end Go.Proofs.YtoepmdbicdoieaaDoor.J
