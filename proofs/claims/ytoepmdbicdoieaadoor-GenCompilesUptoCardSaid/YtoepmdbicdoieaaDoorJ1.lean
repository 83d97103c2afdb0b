/- The document's gen: names, and where they stand. -/
import Derived.Test.YtoepmdbicdoieaaDoorU3
import Derived.Test.YtoepmdbicdoieaaDoorW4
import Derived.Test.YtoepmdbicdoieaaDoorPB
namespace Go.Proofs.YtoepmdbicdoieaaDoor.J
open Go Go.Eng Go.Proofs Go.Proofs.YtoepmdbicdoieaaDoor.T Go.Proofs.YtoepmdbicdoieaaDoor.V Go.Proofs.YtoepmdbicdoieaaDoor.K Go.Proofs.YtoepmdbicdoieaaDoor.U
open Go.Proofs.YtoepmdbicdoieaaDoor.W (i64v ptr Ints RowE findL_append findL_snoc findL_has findL_lt findL_ge RMk RIns RInf RArm src_one each_snoc nums_len nums_append atomsP_append atomsP_len nil_ints here_take here_len)
set_option linter.unusedSimpArgs false
set_option linter.unusedVariables false
set_option maxRecDepth 100000
set_option maxHeartbeats 4000000
section
variable {S : St} {κ : St → Prop} {d : Option Tmp} {f : FuncId} {args : List Value} {st : Bool}
/-- A call that hands back a list of names, frozen. -/
theorem callStrs {l : List ByteArray} (h : RowS Tryd.prog f args S.F l) (next : ∀ v F', S.F.le F' → Strs F' v l → κ ⟨setk S.L d (.v v), S.M, F', S.R, S.nx⟩) : CallV Tryd.prog st f args d κ S :=
  CallV.sl h fun v F' m hF h1 h2 => next v F' hF (sl_strs h1 h2)
abbrev schT : TypeId := 80
/-- A call of the scheme's that turns nothing. -/
def LookFn (f : FuncId) (args : List Value) (F : PH) (sb : Nat) (cs : List Value) (Q : Value → PH → Prop) : Prop :=
  Eng.Fn Tryd.prog f (ptr sb :: args) F [cell1 sb schT cs] (fun v F' R' => R' = [cell1 sb schT cs] ∧ Q v F')
theorem callLook {sb : Nat} {cs : List Value} {Q : Value → PH → Prop} (hM : ownF S.M 0 = some ⟨0, sb, schT, cs⟩) (h : LookFn f args S.F sb cs Q) (next : ∀ v F', S.F.le F' → Q v F' → κ ⟨setk S.L d (.v v), S.M, F', S.R, S.nx⟩) : CallV Tryd.prog st f (ptr sb :: args) d κ S := by
  refine CallV.lookP (i := 0) (R1 := []) (Rf := S.R) (Q' := fun r F' R2 => R2 = S.R ∧ Q r F') hM (.refl _) h ?_ ?_
  · rintro r F' R' _ ⟨rfl, h1⟩
    exact ⟨_, _, rfl, .refl _, rfl, h1⟩
  · rintro r F' R2 hF ⟨rfl, h1⟩
    exact next r F' hF h1
end
theorem find (F : PH) (lv : Value) (l : List ByteArray) (s : ByteArray) (hl : Strs F lv l) : PFn Tryd.prog 91 [lv, .string s] F (fun v _ => v = i64v (findL l s)) := by
  obtain ⟨pl, cl, rfl, hl1, hl2, hl3⟩ := hl
  have hml : (l.length : Int) ≤ 9223372036854775807 := by have := Nat.le_trans hl1 hl2; have : maxLen ≤ 9223372036854775807 := (by decide); omega
  have e0 : IntKind.i64.wrap ((l.length : Int) - 1) = (l.length : Int) - 1 := w64 _ (by omega)
  refine Fn.intro (n := 20) (ts := [4]) Tryd.func91 rfl rfl rfl rfl (by simp) fun B hB => VC.go 100 ?_
  simp only [push_cast, ↓reduceIte, Nat.reduceEqDiff, Nat.reduceAdd, Nat.reduceMul, Nat.reduceSub, Nat.reduceLT, Nat.reduceLeDiff, reduceCtorEq, Nat.reduceMod, Int.reduceEq, Int.reduceLT, Int.reduceLE, Int.reduceToNat, dite_true, e0]
  refine VC.loopL (fun i : Nat => [(5, .v (i64v ((i : Int) - 1))), (0, .v (.slice pl l.length cl)), (1, .v (.string s))]) (fun i => i ≤ l.length ∧ ¬ s ∈ l.drop i) (fun i => i) l.length ⟨Nat.le_refl _, by simp⟩ (by simp [subk, Eng.look]) ?_
  intro i ⟨hi, ht⟩ G hG
  refine VC.go 100 ?_
  by_cases h : 0 < i
  case neg =>
    have h' : ¬ (0 : Int) ≤ (i : Int) - 1 := by omega
    have hi0 : i = 0 := by omega
    rw [hi0] at ht
    simp only [push_cast, ↓reduceIte, Nat.reduceEqDiff, Nat.reduceAdd, Nat.reduceMul, Nat.reduceSub, Nat.reduceLT, Nat.reduceLeDiff, reduceCtorEq, Nat.reduceMod, Int.reduceEq, Int.reduceLT, Int.reduceLE, Int.reduceToNat, dite_true, h']
    exact RetOk.p rfl (by
      have : ¬ 0 ≤ findL l s := fun e => ht ((findL_has l s).1 e)
      have := findL_ge l s
      have e5 : findL l s = -1 := by omega
      rw [e5]; rfl)
  obtain ⟨j, rfl⟩ : ∃ j, i = j + 1 := ⟨i - 1, by omega⟩
  have ej : ((j + 1 : Nat) : Int) - 1 = (j : Int) := by omega
  rw [ej]
  have h' : (0 : Int) ≤ (j : Int) := by omega
  have h2 : (j : Int) < (l.length : Int) := by omega
  have e2 : IntKind.i64.wrap ((j : Int) - 1) = (j : Int) - 1 := w64 _ (by omega)
  obtain ⟨q, rfl, hq⟩ := hl3.elem1 (i := j) (v := .string l[j]) (by simp)
  by_cases g : l[j] = s
  · simp only [push_cast, ↓reduceIte, Nat.reduceEqDiff, Nat.reduceAdd, Nat.reduceMul, Nat.reduceSub, Nat.reduceLT, Nat.reduceLeDiff, reduceCtorEq, Nat.reduceMod, Int.reduceEq, Int.reduceLT, Int.reduceLE, Int.reduceToNat, dite_true, h', h2, hq, eq_true g]
    exact RetOk.p rfl (by
      have e3 : findL l s = j := by
        have e4 : l = l.take j ++ [l[j]] ++ l.drop (j + 1) := by rw [← List.take_succ_eq_append_getElem (by omega), List.take_append_drop]
        rw [e4, findL_append, if_neg (fun e => ht ((findL_has _ _).1 e)), findL_snoc, if_pos g, List.length_take]
        omega
      rw [e3]; rfl)
  · simp only [push_cast, ↓reduceIte, Nat.reduceEqDiff, Nat.reduceAdd, Nat.reduceMul, Nat.reduceSub, Nat.reduceLT, Nat.reduceLeDiff, reduceCtorEq, Nat.reduceMod, Int.reduceEq, Int.reduceLT, Int.reduceLE, Int.reduceToNat, dite_true, h', h2, hq, g, e2]
    refine hG j _ ⟨by omega, ?_⟩ (by omega) (by simp [subk, Eng.look]) (List.Sublist.refl _) rfl rfl
    rw [List.drop_eq_getElem_cons (by omega)]
    simp only [List.mem_cons, not_or]
    exact ⟨fun e => g e.symm, ht⟩
theorem withF (F : PH) (av bv : Value) (a b : List ByteArray) (ha : Strs F av a) (hb : Strs F bv b) (hl : a.length + b.length ≤ 1000000000) : RowS Tryd.prog 23 [av, bv] F (a ++ b) := by
  obtain ⟨pa, ca, rfl, ha1, ha2, ha3⟩ := ha
  obtain ⟨pb, cb, rfl, hb1, hb2, hb3⟩ := hb
  refine Fn.intro (n := 10) (ts := [4]) Tryd.func23 rfl rfl rfl rfl (by simp) fun B hB => VC.go 100 ?_
  simp only [push_cast, ↓reduceIte, Nat.reduceEqDiff, Nat.reduceAdd, Nat.reduceMul, Nat.reduceSub, Nat.reduceLT, Nat.reduceLeDiff, reduceCtorEq, Nat.reduceMod, Int.reduceEq, Int.reduceLT, Int.reduceLE, Int.reduceToNat, dite_true]
  intro bb
  refine Eff.append (xs := []) (ys := a.map .string) rfl rfl rfl ty44 rfl ty9 rfl (by decide) rfl rfl (List.Perm.refl _) (Row.begin bb _ _) ha3 (by simp [Value.oneCell']) (by simp; omega) (by decide) ?_
  intro v1 r1 hr1
  simp only [push_cast, ↓reduceIte, Nat.reduceEqDiff, Nat.reduceAdd, Nat.reduceMul, Nat.reduceSub, Nat.reduceLT, Nat.reduceLeDiff, reduceCtorEq, Nat.reduceMod, Int.reduceEq, Int.reduceLT, Int.reduceLE, Int.reduceToNat, dite_true]
  refine Eff.append (xs := a.map .string) (ys := b.map .string) rfl rfl rfl ty44 rfl ty9 rfl (by decide) rfl rfl (List.Perm.refl _) hr1 hb3 (by simp [Value.oneCell']) (by simp; omega) (by decide) ?_
  intro v2 r2 hr2
  simp only [push_cast, ↓reduceIte, Nat.reduceEqDiff, Nat.reduceAdd, Nat.reduceMul, Nat.reduceSub, Nat.reduceLT, Nat.reduceLeDiff, reduceCtorEq, Nat.reduceMod, Int.reduceEq, Int.reduceLT, Int.reduceLE, Int.reduceToNat, dite_true]
  exact ⟨_, [r2], rfl, RetR.refl _, r2, rfl, by rw [List.map_append]; exact hr2⟩
theorem blank (F : PH) (n : Nat) (hn : n ≤ 100000000) : RowS Tryd.prog 94 [i64v n] F (blanks n) := by
  refine Fn.intro (n := 14) (ts := [2]) Tryd.func94 rfl rfl rfl rfl (by simp) fun B hB => VC.emp ?_
  refine VC.go 100 ?_
  simp only [push_cast, ↓reduceIte, Nat.reduceEqDiff, Nat.reduceAdd, Nat.reduceMul, Nat.reduceSub, Nat.reduceLT, Nat.reduceLeDiff, reduceCtorEq, Nat.reduceMod, Int.reduceEq, Int.reduceLT, Int.reduceLE, Int.reduceToNat, dite_true]
  refine VC.loopG (ι := Nat × Value × PH × PH) (fun i => [(4, .v (i64v i.1)), (3, .v i.2.1), (0, .v (i64v n))]) (fun i => i.2.2.1) (fun i => [i.2.2.2]) (fun i => i.1 ≤ n ∧ F.le i.2.2.1 ∧ Row i.2.2.2 9 1 i.2.1 ((blanks i.1).map .string)) (fun i => n - i.1) (0, .slice none 0 0, F, PH.emp) ⟨Nat.zero_le _, PH.le_refl _, Row.nil _ _⟩ (by simp [subk, Eng.look]) rfl (List.Sublist.refl _) ?_
  rintro ⟨k, v, F1, r⟩ ⟨hk, hF1, hrow⟩ G hG
  dsimp only at hk hF1 hrow hG ⊢
  refine VC.go 100 ?_
  by_cases h : k < n
  case neg =>
    have h' : ¬ (k : Int) < (n : Int) := by omega
    simp only [push_cast, ↓reduceIte, Nat.reduceEqDiff, Nat.reduceAdd, Nat.reduceMul, Nat.reduceSub, Nat.reduceLT, Nat.reduceLeDiff, reduceCtorEq, Nat.reduceMod, Int.reduceEq, Int.reduceLT, Int.reduceLE, Int.reduceToNat, dite_true, h']
    obtain rfl : k = n := by omega
    exact ⟨_, [r], rfl, RetR.refl _, r, rfl, hrow⟩
  have h' : (k : Int) < (n : Int) := by omega
  have e2 : IntKind.i64.wrap ((k : Int) + 1) = ((k + 1 : Nat) : Int) := by rw [w64 _ (by omega)]; omega
  simp only [push_cast, ↓reduceIte, Nat.reduceEqDiff, Nat.reduceAdd, Nat.reduceMul, Nat.reduceSub, Nat.reduceLT, Nat.reduceLeDiff, reduceCtorEq, Nat.reduceMod, Int.reduceEq, Int.reduceLT, Int.reduceLE, Int.reduceToNat, dite_true, h']
  intro b2 F3 hF3 hb3
  refine Eff.append (xs := (blanks k).map .string) (ys := [.string ⟨#[]⟩]) rfl rfl rfl ty44 rfl ty9 rfl (by decide) rfl rfl (List.Perm.refl _) hrow (Src.blk hb3 rfl) (by simp [Value.oneCell']) (by simp [blanks]; omega) (by decide) ?_
  intro v' r' hrow'
  simp only [push_cast, ↓reduceIte, Nat.reduceEqDiff, Nat.reduceAdd, Nat.reduceMul, Nat.reduceSub, Nat.reduceLT, Nat.reduceLeDiff, reduceCtorEq, Nat.reduceMod, Int.reduceEq, Int.reduceLT, Int.reduceLE, Int.reduceToNat, dite_true, e2]
  refine hG (k + 1, v', F3, r') _ ⟨by omega, PH.le_trans hF1 hF3, ?_⟩ (by simp; omega) (by simp [subk, Eng.look]) (List.Sublist.refl _) rfl (List.Sublist.refl _)
  dsimp only
  rw [show blanks (k + 1) = blanks k ++ [⟨#[]⟩] by simp [blanks, List.replicate_succ']]
  rw [List.map_append]
  exact hrow'
theorem hereF (F : PH) (lv nv : Value) (l names : List ByteArray) (hl : Strs F lv l) (hn : Strs F nv names) (hb : names.length ≤ 100000000) : RowS Tryd.prog 96 [lv, nv] F (here l names) := by
  have hl' := hl
  obtain ⟨pl, cl, rfl, _, _, _⟩ := hl
  obtain ⟨pn, cn, rfl, hn1, hn2, hn3⟩ := hn
  refine Fn.intro (n := 28) (ts := [4]) Tryd.func96 rfl rfl rfl rfl (by simp) fun B hB => VC.emp ?_
  refine VC.go 100 ?_
  simp only [push_cast, ↓reduceIte, Nat.reduceEqDiff, Nat.reduceAdd, Nat.reduceMul, Nat.reduceSub, Nat.reduceLT, Nat.reduceLeDiff, reduceCtorEq, Nat.reduceMod, Int.reduceEq, Int.reduceLT, Int.reduceLE, Int.reduceToNat, dite_true]
  refine VC.loopG (ι := Nat × Value × PH × PH) (fun i => [(6, .v (i64v i.1)), (5, .v i.2.1), (0, .v (.slice pl l.length cl)), (1, .v (.slice pn names.length cn))]) (fun i => i.2.2.1) (fun i => [i.2.2.2]) (fun i => i.1 ≤ names.length ∧ F.le i.2.2.1 ∧ Row i.2.2.2 9 1 i.2.1 ((here l (names.take i.1)).map .string)) (fun i => names.length - i.1) (0, .slice none 0 0, F, PH.emp) ⟨Nat.zero_le _, PH.le_refl _, Row.nil _ _⟩ (by simp [subk, Eng.look]) rfl (List.Sublist.refl _) ?_
  rintro ⟨k, v, F1, r⟩ ⟨hk, hF1, hrow⟩ G hG
  dsimp only at hk hF1 hrow hG ⊢
  refine VC.go 100 ?_
  by_cases h : k < names.length
  case neg =>
    have h' : ¬ (k : Int) < (names.length : Int) := by omega
    simp only [push_cast, ↓reduceIte, Nat.reduceEqDiff, Nat.reduceAdd, Nat.reduceMul, Nat.reduceSub, Nat.reduceLT, Nat.reduceLeDiff, reduceCtorEq, Nat.reduceMod, Int.reduceEq, Int.reduceLT, Int.reduceLE, Int.reduceToNat, dite_true, h']
    rw [List.take_of_length_le (by omega)] at hrow
    exact ⟨_, [r], rfl, RetR.refl _, r, rfl, hrow⟩
  have h' : (k : Int) < (names.length : Int) := by omega
  have h0 : (0 : Int) ≤ (k : Int) := by omega
  obtain ⟨q, rfl, hq⟩ := (hn3.mono hF1).elem1 (i := k) (v := .string names[k]) (by simp [h])
  have e2 : IntKind.i64.wrap ((k : Int) + 1) = ((k + 1 : Nat) : Int) := wadd k h (Nat.le_trans hn1 hn2)
  simp only [push_cast, ↓reduceIte, Nat.reduceEqDiff, Nat.reduceAdd, Nat.reduceMul, Nat.reduceSub, Nat.reduceLT, Nat.reduceLeDiff, reduceCtorEq, Nat.reduceMod, Int.reduceEq, Int.reduceLT, Int.reduceLE, Int.reduceToNat, dite_true, h', h0, hq]
  refine CallV.pure (find F1 _ l names[k] (hl'.mono hF1)) ?_
  rintro _ F2 hF2 rfl
  have ht := here_take l names h
  by_cases g : 0 ≤ findL l names[k]
  · simp only [push_cast, ↓reduceIte, Nat.reduceEqDiff, Nat.reduceAdd, Nat.reduceMul, Nat.reduceSub, Nat.reduceLT, Nat.reduceLeDiff, reduceCtorEq, Nat.reduceMod, Int.reduceEq, Int.reduceLT, Int.reduceLE, Int.reduceToNat, dite_true, g, h', h0, hF2.cell hq]
    intro b2 F3 hF3 hb3
    have hlen := here_len l (names.take k)
    refine Eff.append (xs := (here l (names.take k)).map .string) (ys := [.string names[k]]) rfl rfl rfl ty44 rfl ty9 rfl (by decide) rfl rfl (List.Perm.refl _) hrow (Src.blk hb3 rfl) (by simp [Value.oneCell']) (by simp at hlen ⊢; omega) (by decide) ?_
    intro v' r' hrow'
    simp only [push_cast, ↓reduceIte, Nat.reduceEqDiff, Nat.reduceAdd, Nat.reduceMul, Nat.reduceSub, Nat.reduceLT, Nat.reduceLeDiff, reduceCtorEq, Nat.reduceMod, Int.reduceEq, Int.reduceLT, Int.reduceLE, Int.reduceToNat, dite_true, e2]
    refine hG (k + 1, v', F3, r') _ ⟨by omega, PH.le_trans hF1 (PH.le_trans hF2 hF3), ?_⟩ (by simp; omega) (by simp [subk, Eng.look]) (List.Sublist.refl _) rfl (List.Sublist.refl _)
    dsimp only
    rw [ht, if_pos g, List.map_append]
    exact hrow'
  · simp only [push_cast, ↓reduceIte, Nat.reduceEqDiff, Nat.reduceAdd, Nat.reduceMul, Nat.reduceSub, Nat.reduceLT, Nat.reduceLeDiff, reduceCtorEq, Nat.reduceMod, Int.reduceEq, Int.reduceLT, Int.reduceLE, Int.reduceToNat, dite_true, g, e2]
    refine hG (k + 1, v, F2, r) _ ⟨by omega, PH.le_trans hF1 hF2, ?_⟩ (by simp; omega) (by simp [subk, Eng.look]) (List.Sublist.refl _) rfl (List.Sublist.refl _)
    dsimp only
    rw [ht, if_neg g, List.append_nil]
    exact hrow
/-- The scheme's cells. -/
abbrev cellsD (vd vb vc vg vi vn vf vw : Value) (big : Bool) : List Value := [vd, vb, vc, vg, vi, vn, vf, vw, .bool big]
/-- What stands beside a scheme. -/
structure CtxD (F : PH) (ds : List Dat) (bs : List Bind) (vd vb vc vg : Value) : Prop where
  dats : Dats F vd ds
  binds : SlE F 11 (RBind F) vb bs
  few : ds.length ≤ 1000000000 ∧ bs.length ≤ 100000000
  tab : P.Table F
  c1 : vc.oneCell' = true
  g1 : vg.oneCell' = true
theorem CtxD.mono {F G : PH} (hl : F.le G) {ds : List Dat} {bs : List Bind} {vd vb vc vg : Value} (h : CtxD F ds bs vd vb vc vg) : CtxD G ds bs vd vb vc vg :=
  ⟨h.dats.mono' hl, h.binds.mono hl fun _ _ _ h => h.mono hl, h.few, h.tab.mono hl, h.c1, h.g1⟩
theorem conD_at : ∀ (ds : List Dat) (s : ByteArray) (k : Nat) (h : k < ds.length), (∀ d ∈ ds.take k, ¬ d.name = s) → (ds[k]).name = s → conD ds s = k
  | [], _, _, h, _, _ => nomatch h
  | d :: l, s, 0, h, _, e => by simp at e; simp [conD, e]
  | d :: l, s, k + 1, h, hn, e => by
    have h1 : ¬ d.name = s := hn d (by simp)
    have h2 := conD_at l s k (by simpa using h) (fun x hx => hn x (by simp [hx])) (by simpa using e)
    have hany : l.any (fun x => decide (x.name = s)) = true := List.any_eq_true.2 ⟨l[k]'(by simpa using h), List.getElem_mem _, by simpa using e⟩
    simp only [conD, if_neg h1, if_pos hany, h2]
    omega
theorem conD_no : ∀ (ds : List Dat) (s : ByteArray), (∀ d ∈ ds, ¬ d.name = s) → conD ds s = 0
  | [], _, _ => rfl
  | d :: l, s, hn => by
    have h1 : ¬ d.name = s := hn d (by simp)
    have hany : ¬ l.any (fun x => decide (x.name = s)) = true := fun h => by
      obtain ⟨x, hx, e⟩ := List.any_eq_true.1 h
      exact hn x (by simp [hx]) (by simpa using e)
    simp only [conD, if_neg h1, if_neg hany]
theorem con (F : PH) (ds : List Dat) (sb : Nat) (vd vb vc vg vi vn vf vw : Value) (big : Bool) (s : ByteArray) (hd : Dats F vd ds) :
    LookFn 49 [.string s] F sb (cellsD vd vb vc vg vi vn vf vw big) (fun v _ => v = i64v (conD ds s)) := by
  have hd' := hd
  obtain ⟨pd, cd, rfl, hd1, hd2⟩ := hd.val
  refine SFn.intro (n := 28) (ts := [4]) Tryd.func49 rfl rfl rfl rfl (by simp) fun B hB => VC.go 100 ?_
  simp only [push_cast, ↓reduceIte, Nat.reduceEqDiff, Nat.reduceAdd, Nat.reduceMul, Nat.reduceSub, Nat.reduceLT, Nat.reduceLeDiff, reduceCtorEq, Nat.reduceMod, Int.reduceEq, Int.reduceLT, Int.reduceLE, Int.reduceToNat, dite_true]
  refine VC.loopL (fun i : Nat => [(5, .v (i64v i)), (0, .o 0 sb 0), (1, .v (.string s))]) (fun i => i ≤ ds.length ∧ ∀ d ∈ ds.take i, ¬ d.name = s) (fun i => ds.length - i) 0 ⟨Nat.zero_le _, by simp⟩ (by simp [subk, Eng.look]) ?_
  intro i ⟨hi, ht⟩ G hG
  refine VC.go 100 ?_
  by_cases h : i < ds.length
  case neg =>
    have h' : ¬ (i : Int) < (ds.length : Int) := by omega
    simp only [push_cast, ↓reduceIte, Nat.reduceEqDiff, Nat.reduceAdd, Nat.reduceMul, Nat.reduceSub, Nat.reduceLT, Nat.reduceLeDiff, reduceCtorEq, Nat.reduceMod, Int.reduceEq, Int.reduceLT, Int.reduceLE, Int.reduceToNat, dite_true, h']
    rw [List.take_of_length_le (by omega)] at ht
    exact RetOk.r (vs := [_]) rfl (RetR.own (i := 0) rfl) ⟨rfl, by rw [conD_no ds s ht]; rfl⟩
  have h' : (i : Int) < (ds.length : Int) := by omega
  have h0 : (0 : Int) ≤ (i : Int) := by omega
  obtain ⟨q, _, cs, eq, _, _, kl, kr⟩ := hd'.elem (by decide) (i := i) (a := ds[i]) (List.getElem?_eq_getElem h) (fun _ _ h => h.len)
  cases eq
  obtain rfl := kr
  have kc := cell_at kl (o := 0) rfl
  have e2 : IntKind.i64.wrap ((i : Int) + 1) = ((i + 1 : Nat) : Int) := wadd i h (Nat.le_trans hd1 hd2)
  by_cases g : (ds[i]).name = s
  · simp only [push_cast, ↓reduceIte, Nat.reduceEqDiff, Nat.reduceAdd, Nat.reduceMul, Nat.reduceSub, Nat.reduceLT, Nat.reduceLeDiff, reduceCtorEq, Nat.reduceMod, Int.reduceEq, Int.reduceLT, Int.reduceLE, Int.reduceToNat, dite_true, h', h0, kc, eq_true g]
    exact RetOk.r (vs := [_]) rfl (RetR.own (i := 0) rfl) ⟨rfl, by rw [conD_at ds s i h ht g]; rfl⟩
  · simp only [push_cast, ↓reduceIte, Nat.reduceEqDiff, Nat.reduceAdd, Nat.reduceMul, Nat.reduceSub, Nat.reduceLT, Nat.reduceLeDiff, reduceCtorEq, Nat.reduceMod, Int.reduceEq, Int.reduceLT, Int.reduceLE, Int.reduceToNat, dite_true, h', h0, kc, g, e2]
    refine hG (i + 1) _ ⟨by omega, fun d hdm => ?_⟩ (by omega) (by simp [subk, Eng.look]) (List.Sublist.refl _) rfl rfl
    rw [List.take_succ_eq_append_getElem h] at hdm
    rcases List.mem_append.1 hdm with hdm | hdm
    · exact ht d hdm
    · rw [List.mem_singleton.1 hdm]; exact g
theorem placeD (F : PH) (ds : List Dat) (bs : List Bind) (sb : Nat) (vd vb vc vg vi vn vf vw : Value) (big : Bool) (lv : Value) (l : List ByteArray) (s : ByteArray) (hl : Strs F lv l) (hb : SlE F 11 (RBind F) vb bs) (hn : bs.length ≤ 100000000) :
    LookFn 52 [lv, .string s] F sb (cellsD vd vb vc vg vi vn vf vw big) (fun v _ => v = i64v (place (env ds bs) l s)) := by
  have hl' := hl
  obtain ⟨pl, cl, rfl, hl1, hl2, _⟩ := hl
  have hlm := findL_lt l s
  have hlm2 := findL_lt (bs.map Bind.name) s
  have hge := findL_ge l s
  have hge2 := findL_ge (bs.map Bind.name) s
  rw [List.length_map] at hlm2
  refine SFn.intro (n := 23) (ts := [6]) Tryd.func52 rfl rfl rfl rfl (by simp) fun B hB => VC.go 100 ?_
  simp only [push_cast, ↓reduceIte, Nat.reduceEqDiff, Nat.reduceAdd, Nat.reduceMul, Nat.reduceSub, Nat.reduceLT, Nat.reduceLeDiff, reduceCtorEq, Nat.reduceMod, Int.reduceEq, Int.reduceLT, Int.reduceLE, Int.reduceToNat, dite_true]
  refine CallV.pure (find F _ l s hl') ?_
  rintro _ F1 hF1 rfl
  by_cases g : 0 ≤ findL l s
  · simp only [push_cast, ↓reduceIte, Nat.reduceEqDiff, Nat.reduceAdd, Nat.reduceMul, Nat.reduceSub, Nat.reduceLT, Nat.reduceLeDiff, reduceCtorEq, Nat.reduceMod, Int.reduceEq, Int.reduceLT, Int.reduceLE, Int.reduceToNat, dite_true, g]
    exact RetOk.r (vs := [_]) rfl (RetR.own (i := 0) rfl) ⟨rfl, by unfold place; rw [if_pos g]; rfl⟩
  · have e1 : IntKind.i64.wrap (-1 - findL (bs.map Bind.name) s) = -1 - findL (bs.map Bind.name) s := w64 _ (by omega)
    simp only [push_cast, ↓reduceIte, Nat.reduceEqDiff, Nat.reduceAdd, Nat.reduceMul, Nat.reduceSub, Nat.reduceLT, Nat.reduceLeDiff, reduceCtorEq, Nat.reduceMod, Int.reduceEq, Int.reduceLT, Int.reduceLE, Int.reduceToNat, dite_true, g]
    refine callStrs (namesF F1 vb bs (hb.mono hF1 fun _ _ _ h => h.mono hF1) hn) fun v2 F2 hF2 hs2 => ?_
    simp only [push_cast, ↓reduceIte, Nat.reduceEqDiff, Nat.reduceAdd, Nat.reduceMul, Nat.reduceSub, Nat.reduceLT, Nat.reduceLeDiff, reduceCtorEq, Nat.reduceMod, Int.reduceEq, Int.reduceLT, Int.reduceLE, Int.reduceToNat, dite_true]
    refine CallV.pure (find F2 _ _ s hs2) ?_
    rintro _ F3 hF3 rfl
    simp only [push_cast, ↓reduceIte, Nat.reduceEqDiff, Nat.reduceAdd, Nat.reduceMul, Nat.reduceSub, Nat.reduceLT, Nat.reduceLeDiff, reduceCtorEq, Nat.reduceMod, Int.reduceEq, Int.reduceLT, Int.reduceLE, Int.reduceToNat, dite_true, e1]
    exact RetOk.r (vs := [_]) rfl (RetR.own (i := 0) rfl) ⟨rfl, by unfold place; rw [if_neg g]; rfl⟩
end Go.Proofs.YtoepmdbicdoieaaDoor.J
