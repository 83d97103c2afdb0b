/- gen: places of names, lists of them. -/
import Derived.Test.YtoepmdbicdoieaaDoorW1
namespace Go.Proofs.YtoepmdbicdoieaaDoor.W
open Go Go.Eng Go.Proofs Go.Proofs.YtoepmdbicdoieaaDoor.T Go.Proofs.YtoepmdbicdoieaaDoor.K Go.Proofs.YtoepmdbicdoieaaDoor.U
set_option linter.unusedSimpArgs false
set_option linter.unusedVariables false
set_option maxRecDepth 100000
set_option maxHeartbeats 4000000
def fo (l : List ByteArray) (s : ByteArray) : Option Int := if 0 ≤ findL l s then some (findL l s) else none
theorem with_ (F : PH) (v vl : Value) (frm : Int) (m : ByteArray → Option Int) (l : List ByteArray) (h : PlcM F v m) (hl : Strs F vl l) (hf : 0 ≤ frm ∧ frm ≤ 1000000000) (hll : l.length ≤ 1000000000) :
    PFn Tryd.prog 110 [v, i64v frm, vl] F (fun r F' => PlcM F' r (fun s => if 0 ≤ findL l s then some (frm + findL l s) else m s)) :=
  Eng.Fn.frozen (withU F v vl frm m l h hl hf hll) fun r F' R' ⟨ob, es, c, kv, e1, e2, h1, h2, h3⟩ => ⟨_, [], by rw [e2], fun F'' k1 k2 => ⟨rfl, ob, es, c, kv, e1, k2 _ _ (PH.one_self _ _), h1, h2, h3⟩⟩
/-- The places of a list of names (but for a name that is none). -/
def Plc (F : PH) (v : Value) (l : List ByteArray) : Prop := ∃ m, PlcM F v m ∧ ∀ s, ¬ s = ⟨#[]⟩ → m s = fo l s
theorem Plc.mono {F G : PH} (hl : F.le G) {v : Value} {l : List ByteArray} (h : Plc F v l) : Plc G v l := let ⟨m, h1, h2⟩ := h; ⟨m, h1.mono hl, h2⟩
theorem Plc.val {F : PH} {v : Value} {l : List ByteArray} (h : Plc F v l) : ∃ b, v = .map (some b) := let ⟨_, ⟨b, _, _, _, e, _⟩, _⟩ := h; ⟨b, e⟩
theorem fo_append (a b : List ByteArray) (s : ByteArray) : fo (a ++ b) s = if 0 ≤ findL b s then some (a.length + findL b s) else fo a s := by
  unfold fo
  rw [findL_append]
  by_cases h : 0 ≤ findL b s
  · simp only [h, if_true]; rw [if_pos (by omega)]
  · simp only [h, if_false]
theorem blank_find (n : Nat) {s : ByteArray} (h : ¬ s = ⟨#[]⟩) : ¬ 0 ≤ findL (blanks n) s := fun e => h (List.eq_of_mem_replicate ((findL_has _ _).1 e))
theorem withP (F : PH) (v vl : Value) (l r : List ByteArray) (k : Nat) (h : Plc F v l) (hl : Strs F vl r) (hf : l.length + k ≤ 1000000000) (hll : r.length ≤ 1000000000) :
    PFn Tryd.prog 110 [v, i64v ((l.length + k : Nat) : Int), vl] F (fun r' F' => Plc F' r' (l ++ blanks k ++ r)) := by
  obtain ⟨m, h1, h2⟩ := h
  refine Eng.Fn.mono (with_ F v vl _ m r h1 hl (by omega) hll) fun r' F' R' _ ⟨e, q⟩ => ⟨e, _, q, fun s hs => ?_⟩
  rw [fo_append, fo_append, if_neg (blank_find k hs), h2 s hs]
  simp [blanks]
theorem place_in {C : Env} {l : List ByteArray} {s : ByteArray} (h : s ∈ l) : place C l s = findL l s := if_pos ((findL_has _ _).2 h)
theorem placeF (F : PH) (C : Env) (sb : Nat) (vc vg vi vn mc mt vq : Value) (big : Bool) (v : Value) (l : List ByteArray) (s : ByteArray) (hp : Plc F v l) (ht : PlcM F mt (fo C.tops)) (hs : ¬ s = ⟨#[]⟩) (hin : s ∈ l ∨ s ∈ C.tops) (hb : C.tops.length ≤ 1000000000) :
    OFn Tryd.prog 85 [ptr sb, .string s, v] F sb 70 (schC vc vg vi vn mc mt vq big) (fun r F' cs' => cs' = schC vc vg vi vn mc mt vq big ∧ r = i64v (place C l s)) := by
  obtain ⟨m, ⟨mb, es, c, kv, rfl, hF, hm, hn, hg⟩, hm2⟩ := hp
  obtain ⟨tb, est, ct, kt, rfl, hFt, hmt, hnt, hgt⟩ := ht
  refine OFn.intro (n := 24) (ts := [6]) Tryd.func85 rfl rfl rfl rfl (by simp) fun B hB => VC.go 100 ?_
  simp only [push_cast, ↓reduceIte, Nat.reduceEqDiff, Nat.reduceAdd, Nat.reduceMul, Nat.reduceSub, Nat.reduceLT, Nat.reduceLeDiff, reduceCtorEq, Nat.reduceMod, Int.reduceEq, Int.reduceLT, Int.reduceLE, Int.reduceToNat, dite_true]
  refine Eff.lookup keyStr rfl ty122 rfl Tryd.underlying9 ty3 rfl rfl (.inl hF) hm.1 ?_
  by_cases h : s ∈ l
  · have h0 := (findL_has l s).2 h
    rw [show mget kv s = some (i64v (findL l s)) from by rw [hg, hm2 s hs]; simp [fo, h0]]
    simp only [push_cast, ↓reduceIte, Nat.reduceEqDiff, Nat.reduceAdd, Nat.reduceMul, Nat.reduceSub, Nat.reduceLT, Nat.reduceLeDiff, reduceCtorEq, Nat.reduceMod, Int.reduceEq, Int.reduceLT, Int.reduceLE, Int.reduceToNat, dite_true, Option.getD_some, Option.isSome_some]
    exact RetOk.r (vs := [_]) rfl (RetR.own (i := 0) rfl) ⟨_, rfl, rfl, by rw [place_in h]; rfl⟩
  · have h0 : ¬ 0 ≤ findL l s := fun e => h ((findL_has l s).1 e)
    rw [show mget kv s = none from by rw [hg, hm2 s hs]; simp [fo, h0]]
    simp only [push_cast, ↓reduceIte, Nat.reduceEqDiff, Nat.reduceAdd, Nat.reduceMul, Nat.reduceSub, Nat.reduceLT, Nat.reduceLeDiff, reduceCtorEq, Nat.reduceMod, Int.reduceEq, Int.reduceLT, Int.reduceLE, Int.reduceToNat, dite_true, Option.getD_none, Option.isSome_none]
    have h1 := (findL_has C.tops s).2 (hin.resolve_left h)
    refine Eff.lookup keyStr rfl ty67 rfl Tryd.underlying9 ty3 rfl rfl (.inl hFt) hmt.1 ?_
    rw [show mget kt s = some (i64v (findL C.tops s)) from by rw [hgt]; simp [fo, h1]]
    have h2 := findL_lt C.tops s
    have e1 : IntKind.i64.wrap (-1 - findL C.tops s) = -1 - findL C.tops s := w64 _ (by omega)
    simp only [push_cast, ↓reduceIte, Nat.reduceEqDiff, Nat.reduceAdd, Nat.reduceMul, Nat.reduceSub, Nat.reduceLT, Nat.reduceLeDiff, reduceCtorEq, Nat.reduceMod, Int.reduceEq, Int.reduceLT, Int.reduceLE, Int.reduceToNat, dite_true, Option.getD_some, e1]
    exact RetOk.r (vs := [_]) rfl (RetR.own (i := 0) rfl) ⟨_, rfl, rfl, by unfold place; rw [if_neg h0]; rfl⟩
theorem here_take (l names : List ByteArray) {k : Nat} (h : k < names.length) : here l (names.take (k + 1)) = here l (names.take k) ++ (if 0 ≤ findL l names[k] then [names[k]] else []) := by
  rw [List.take_succ_eq_append_getElem h]
  simp only [here, List.filter_append, List.filter_cons, List.filter_nil]
  by_cases h0 : 0 ≤ findL l names[k] <;> simp [h0]
theorem here_len (l names : List ByteArray) : (here l names).length ≤ names.length := List.length_filter_le _ _
theorem locals (F : PH) (lv v : Value) (names l : List ByteArray) (hl : Strs F lv names) (hp : Plc F v l) (hne : ∀ s ∈ names, ¬ s = ⟨#[]⟩) (hb : names.length ≤ 100000000) : RowS Tryd.prog 112 [lv, v] F (here l names) := by
  obtain ⟨m, ⟨mb, es, c, kv, rfl, hF, hm, hn, hg⟩, hm2⟩ := hp
  obtain ⟨pl, cl, rfl, hl1, hl2, hl3⟩ := hl
  refine Fn.intro (n := 29) (ts := [4]) Tryd.func112 rfl rfl rfl rfl (by simp) fun B hB => VC.emp ?_
  refine VC.go 100 ?_
  simp only [push_cast, ↓reduceIte, Nat.reduceEqDiff, Nat.reduceAdd, Nat.reduceMul, Nat.reduceSub, Nat.reduceLT, Nat.reduceLeDiff, reduceCtorEq, Nat.reduceMod, Int.reduceEq, Int.reduceLT, Int.reduceLE, Int.reduceToNat, dite_true]
  refine VC.loopR (ι := Nat × Value × PH × PH) (fun i => [(12, .v (i64v i.1)), (11, .v (i64v names.length)), (10, .v (.slice pl names.length cl)), (5, .v i.2.1), (1, .v (.map (some mb)))]) (fun i => i.2.2.1) (fun i => i.2.2.2) [] (fun i => i.1 ≤ names.length ∧ F.le i.2.2.1 ∧ Row i.2.2.2 9 1 i.2.1 ((here l (names.take i.1)).map .string)) (fun i => names.length - i.1) (0, .slice none 0 0, F, PH.emp) ⟨Nat.zero_le _, PH.le_refl _, Row.nil _ _⟩ (by simp [subk, Eng.look]) rfl rfl ?_
  rintro ⟨k, u, F1, r⟩ ⟨hk, hF1, hrow⟩ G hG
  dsimp only at hk hF1 hrow hG ⊢
  refine VC.go 100 ?_
  by_cases h : k < names.length
  case neg =>
    have h' : ¬ (k : Int) < (names.length : Int) := by omega
    simp only [push_cast, ↓reduceIte, Nat.reduceEqDiff, Nat.reduceAdd, Nat.reduceMul, Nat.reduceSub, Nat.reduceLT, Nat.reduceLeDiff, reduceCtorEq, Nat.reduceMod, Int.reduceEq, Int.reduceLT, Int.reduceLE, Int.reduceToNat, dite_true, h']
    rw [List.take_of_length_le (by omega)] at hrow
    exact ⟨_, [r], rfl, RetR.refl _, r, rfl, hrow⟩
  have h' : (k : Int) < (names.length : Int) := by omega
  have h0 : (0 : Int) ≤ (k : Int) := by omega
  obtain ⟨a, rfl, ha⟩ := (hl3.mono hF1).elem1 (i := k) (v := .string names[k]) (by simp [h])
  have e2 : IntKind.i64.wrap ((k : Int) + 1) = ((k + 1 : Nat) : Int) := wadd k h (Nat.le_trans hl1 hl2)
  simp only [push_cast, ↓reduceIte, Nat.reduceEqDiff, Nat.reduceAdd, Nat.reduceMul, Nat.reduceSub, Nat.reduceLT, Nat.reduceLeDiff, reduceCtorEq, Nat.reduceMod, Int.reduceEq, Int.reduceLT, Int.reduceLE, Int.reduceToNat, dite_true, h', h0, ha]
  refine Eff.lookup keyStr rfl ty122 rfl Tryd.underlying9 ty3 rfl rfl (.inl (hF1 _ _ hF)) hm.1 ?_
  have hmg : mget kv names[k] = (fo l names[k]).map i64v := by rw [hg, hm2 _ (hne _ (List.getElem_mem h))]
  have hst := here_take l names h
  by_cases hs : 0 ≤ findL l names[k]
  · rw [show mget kv names[k] = some (i64v (findL l names[k])) from by rw [hmg]; simp [fo, hs]]
    rw [if_pos hs] at hst
    simp only [push_cast, ↓reduceIte, Nat.reduceEqDiff, Nat.reduceAdd, Nat.reduceMul, Nat.reduceSub, Nat.reduceLT, Nat.reduceLeDiff, reduceCtorEq, Nat.reduceMod, Int.reduceEq, Int.reduceLT, Int.reduceLE, Int.reduceToNat, dite_true, Option.getD_some, Option.isSome_some]
    intro b2 F3 hF3 hb3
    refine Eff.append (ys := [.string names[k]]) rfl rfl rfl ty44 rfl ty9 rfl (by decide) rfl rfl (List.Perm.refl _) hrow (Src.blk hb3 rfl) (by simp [Value.oneCell']) (by have := here_len l (names.take k); simp at this ⊢; omega) (by decide) ?_
    intro v' r' hrow'
    simp only [push_cast, ↓reduceIte, Nat.reduceEqDiff, Nat.reduceAdd, Nat.reduceMul, Nat.reduceSub, Nat.reduceLT, Nat.reduceLeDiff, reduceCtorEq, Nat.reduceMod, Int.reduceEq, Int.reduceLT, Int.reduceLE, Int.reduceToNat, dite_true, e2]
    exact hG (k + 1, v', F3, r') _ ⟨by omega, PH.le_trans hF1 hF3, by rw [hst, List.map_append]; exact hrow'⟩ (by simp; omega) (by simp [subk, Eng.look]) (List.Sublist.refl _) rfl rfl
  · rw [show mget kv names[k] = none from by rw [hmg]; simp [fo, hs]]
    rw [if_neg hs, List.append_nil] at hst
    simp only [push_cast, ↓reduceIte, Nat.reduceEqDiff, Nat.reduceAdd, Nat.reduceMul, Nat.reduceSub, Nat.reduceLT, Nat.reduceLeDiff, reduceCtorEq, Nat.reduceMod, Int.reduceEq, Int.reduceLT, Int.reduceLE, Int.reduceToNat, dite_true, Option.getD_none, Option.isSome_none, e2]
    exact hG (k + 1, u, F1, r) _ ⟨by omega, hF1, by rw [hst]; exact hrow⟩ (by simp; omega) (by simp [subk, Eng.look]) (List.Sublist.refl _) rfl rfl
end Go.Proofs.YtoepmdbicdoieaaDoor.W
