/- Lists of names: once, and an expression's atoms. -/
import Derived.Test.YtlgfajdedmajcaaV1
namespace Go.Proofs.Ytlgfajdedmajcaa.V
open Go Go.Eng Go.Proofs Go.Proofs.Ytlgfajdedmajcaa.T
set_option linter.unusedSimpArgs false
set_option maxRecDepth 100000
def onceL (l : List ByteArray) : List ByteArray := l.foldl (fun out s => out ++ lessL [s] out) []
theorem onceL_snoc (l : List ByteArray) (s : ByteArray) : onceL (l ++ [s]) = onceL l ++ lessL [s] (onceL l) := by simp [onceL, List.foldl_append]
theorem onceL_fold (l : List ByteArray) : ∀ acc : List ByteArray, (l.foldl (fun out s => out ++ lessL [s] out) acc).length ≤ acc.length + l.length := by
  induction l with
  | nil => intro acc; simp
  | cons s l ih =>
    intro acc
    have h1 := ih (acc ++ lessL [s] acc)
    have h2 := lessL_length [s] acc
    simp only [List.foldl_cons, List.length_append, List.length_cons, List.length_nil] at h1 h2 ⊢
    omega
theorem onceL_length (l : List ByteArray) : (onceL l).length ≤ l.length := by
  have := onceL_fold l []
  simpa [onceL] using this
theorem one_max : 1 ≤ maxLen := by decide
theorem sl_strs {F : PH} {v : Value} {m : Nat} {l : List ByteArray} (hm : (l.map Value.string).length = m * 1) (h : Sl F 1 v m (l.map .string)) : Strs F v l := by
  simp at hm; unfold Strs; rw [hm]; exact h
theorem strs_blk {F : PH} {b : Nat} {l : List ByteArray} {e : TypeId} {fr : Nat × Nat} (h : F b = some (.cells (l.map Value.string).toArray e fr)) (hl : l.length ≤ maxLen) : Strs F (.slice (some ⟨b, 0, none⟩) l.length l.length) l :=
  ⟨_, _, rfl, Nat.le_refl _, hl, Src.blk h (by simp)⟩
theorem Row.strs {r F : PH} {e : TypeId} {v : Value} {l : List ByteArray} (h : Row r e 1 v (l.map .string)) (hl : r.le F) : Strs F v l := by
  obtain ⟨m, h1, h2⟩ := h.sl hl
  exact sl_strs h1 h2
theorem once (F : PH) (lv : Value) (l : List ByteArray) (hl : Strs F lv l) (hb : l.length ≤ 100000000) : RowS Try.prog 37 [lv] F (onceL l) := by
  obtain ⟨pl, cl, rfl, hl1, hl2, hl3⟩ := hl
  refine Fn.intro (n := 20) (ts := [2]) Try.func37 rfl rfl rfl rfl (by simp) fun B hB => VC.emp ?_
  refine VC.go 100 ?_
  simp only [push_cast, ↓reduceIte, Nat.reduceEqDiff, Nat.reduceAdd, Nat.reduceMul, Nat.reduceSub, Nat.reduceLT, Nat.reduceLeDiff, reduceCtorEq, Nat.reduceMod, Int.reduceEq, Int.reduceLT, Int.reduceLE, Int.reduceToNat, dite_true]
  refine VC.loopG (ι := Nat × Value × PH × PH) (fun i => [(8, .v (.int .i64 i.1)), (7, .v (.int .i64 l.length)), (6, .v (.slice pl l.length cl)), (3, .v i.2.1)]) (fun i => i.2.2.1) (fun i => [i.2.2.2]) (fun i => i.1 ≤ l.length ∧ F.le i.2.2.1 ∧ Row i.2.2.2 9 1 i.2.1 ((onceL (l.take i.1)).map .string)) (fun i => l.length - i.1) (0, .slice none 0 0, F, PH.emp) ⟨Nat.zero_le _, PH.le_refl _, Row.nil _ _⟩ (by simp [subk, Eng.look]) rfl (List.Sublist.refl _) ?_
  rintro ⟨k, v, F1, r⟩ ⟨hk, hF1, hrow⟩ G hG
  dsimp only at hk hF1 hrow hG ⊢
  refine VC.go 100 ?_
  by_cases h : k < l.length
  case neg =>
    have h' : ¬ (k : Int) < (l.length : Int) := by omega
    simp only [push_cast, ↓reduceIte, Nat.reduceEqDiff, Nat.reduceAdd, Nat.reduceMul, Nat.reduceSub, Nat.reduceLT, Nat.reduceLeDiff, reduceCtorEq, Nat.reduceMod, Int.reduceEq, Int.reduceLT, Int.reduceLE, Int.reduceToNat, dite_true, h']
    rw [List.take_of_length_le (by omega)] at hrow
    exact ⟨_, [r], rfl, RetR.refl _, r, rfl, hrow⟩
  have h' : (k : Int) < (l.length : Int) := by omega
  have h0 : (0 : Int) ≤ (k : Int) := by omega
  obtain ⟨a, rfl, ha⟩ := (hl3.mono hF1).elem1 (i := k) (v := .string l[k]) (by simp [h])
  have e2 : IntKind.i64.wrap ((k : Int) + 1) = ((k + 1 : Nat) : Int) := wrap_add k h (Nat.le_trans hl1 hl2)
  have ht : onceL (l.take (k + 1)) = onceL (l.take k) ++ lessL [l[k]] (onceL (l.take k)) := by rw [List.take_succ_eq_append_getElem h, onceL_snoc]
  have hlen := onceL_length (l.take k)
  simp only [push_cast, ↓reduceIte, Nat.reduceEqDiff, Nat.reduceAdd, Nat.reduceMul, Nat.reduceSub, Nat.reduceLT, Nat.reduceLeDiff, reduceCtorEq, Nat.reduceMod, Int.reduceEq, Int.reduceLT, Int.reduceLE, Int.reduceToNat, dite_true, h', h0, ha]
  intro b F2 hF2 hb2
  have hone : Strs F2 (.slice (some ⟨b, 0, none⟩) 1 1) [l[k]] := strs_blk (l := [l[k]]) hb2 one_max
  refine CallV.lendSl (r := r) (Rf := []) (List.Perm.refl _) (less F2 _ _ [l[k]] [] hone ⟨none, 0, rfl, Nat.le_refl _, Nat.zero_le _, rfl, fun h => absurd h (by simp)⟩ (by simp)).1 (fun hd => less (F2.or r) _ _ [l[k]] (onceL (l.take k)) (hone.mono (PH.or_left _ _)) (Row.strs hrow (PH.or_right hd)) (by simp)) ?_
  intro v2 F3 m hF3 hm hv2
  have hv2' := sl_strs hm hv2
  obtain ⟨p2, c2, rfl, _, _, hs2⟩ := hv2'
  simp only [push_cast, ↓reduceIte, Nat.reduceEqDiff, Nat.reduceAdd, Nat.reduceMul, Nat.reduceSub, Nat.reduceLT, Nat.reduceLeDiff, reduceCtorEq, Nat.reduceMod, Int.reduceEq, Int.reduceLT, Int.reduceLE, Int.reduceToNat, dite_true]
  refine Eff.append (xs := (onceL (l.take k)).map .string) (ys := (lessL [l[k]] (onceL (l.take k))).map .string) rfl rfl rfl ty33 rfl ty9 rfl (by decide) rfl rfl (List.Perm.refl _) hrow hs2 (by simp [Value.oneCell']) ?_ (by decide) ?_
  · have := lessL_length [l[k]] (onceL (l.take k))
    simp only [List.length_map, List.length_take, List.length_cons, List.length_nil] at this hlen ⊢
    omega
  intro v' r' hrow'
  simp only [push_cast, ↓reduceIte, Nat.reduceEqDiff, Nat.reduceAdd, Nat.reduceMul, Nat.reduceSub, Nat.reduceLT, Nat.reduceLeDiff, reduceCtorEq, Nat.reduceMod, Int.reduceEq, Int.reduceLT, Int.reduceLE, Int.reduceToNat, dite_true, e2]
  exact hG (k + 1, v', F3, r') _ ⟨by omega, PH.le_trans hF1 (PH.le_trans hF2 hF3), by rw [ht, List.map_append]; exact hrow'⟩ (by simp; omega) (by simp [subk, Eng.look]) (List.Sublist.refl _) rfl (List.Sublist.refl _)
def atomsL (l : List (ByteArray × Int)) : List ByteArray := l.flatMap fun a => lessL [a.1] [⟨#[]⟩]
theorem atomsL_length (l : List (ByteArray × Int)) : (atomsL l).length ≤ l.length := by
  induction l with
  | nil => simp [atomsL]
  | cons a l ih =>
    have := lessL_length [a.1] [⟨#[]⟩]
    simp only [atomsL, List.flatMap_cons, List.length_append, List.length_cons, List.length_nil] at this ih ⊢
    omega
theorem atomVals_len (l : List (ByteArray × Int)) : (atomVals l).length = l.length * 2 := by
  induction l with
  | nil => rfl
  | cons a l ih => simp only [atomVals, List.length_cons, ih]; omega
theorem atomVals_at : ∀ (l : List (ByteArray × Int)) (i : Nat) (h : i < l.length), ((atomVals l).drop (i * 2)).take 2 = [.string (l[i]).1, .int .i64 (l[i]).2]
  | a :: l, 0, h => rfl
  | a :: l, i + 1, h => by
    have := atomVals_at l i (by simpa using h)
    rw [show (i + 1) * 2 = i * 2 + 1 + 1 from by omega]
    simpa [atomVals] using this
theorem atoms (F : PH) (e : Exp) (va vb ve vl : Value) (h : ExpAt F e va vb ve vl) (hb : e.atoms.length ≤ 100000000) : RowS Try.prog 34 [.agg (expCells e va vb ve vl).toArray] F (atomsL e.atoms) := by
  obtain ⟨⟨pa, ca, rfl, ha1, ha2, ha3⟩, _, _, _⟩ := h
  refine Fn.intro (n := 22) (ts := [2]) Try.func34 rfl rfl rfl rfl (by simp) fun B hB => VC.emp ?_
  refine VC.go 100 ?_
  simp only [push_cast, ↓reduceIte, Nat.reduceEqDiff, Nat.reduceAdd, Nat.reduceMul, Nat.reduceSub, Nat.reduceLT, Nat.reduceLeDiff, reduceCtorEq, Nat.reduceMod, Int.reduceEq, Int.reduceLT, Int.reduceLE, Int.reduceToNat, dite_true]
  intro bb
  refine VC.loopG (ι := Nat × Value × PH × PH) (fun i => [(9, .v (.int .i64 i.1)), (8, .v (.int .i64 e.atoms.length)), (7, .v (.slice pa e.atoms.length ca)), (3, .v i.2.1)]) (fun i => i.2.2.1) (fun i => [i.2.2.2]) (fun i => i.1 ≤ e.atoms.length ∧ F.le i.2.2.1 ∧ Row i.2.2.2 9 1 i.2.1 ((atomsL (e.atoms.take i.1)).map .string)) (fun i => e.atoms.length - i.1) (0, .slice none 0 0, F, PH.emp) ⟨Nat.zero_le _, PH.le_refl _, Row.nil _ _⟩ (by simp [subk, Eng.look]) rfl (List.Sublist.refl _) ?_
  rintro ⟨k, v, F1, r⟩ ⟨hk, hF1, hrow⟩ G hG
  dsimp only at hk hF1 hrow hG ⊢
  refine VC.go 100 ?_
  by_cases h : k < e.atoms.length
  case neg =>
    have h' : ¬ (k : Int) < (e.atoms.length : Int) := by omega
    simp only [push_cast, ↓reduceIte, Nat.reduceEqDiff, Nat.reduceAdd, Nat.reduceMul, Nat.reduceSub, Nat.reduceLT, Nat.reduceLeDiff, reduceCtorEq, Nat.reduceMod, Int.reduceEq, Int.reduceLT, Int.reduceLE, Int.reduceToNat, dite_true, h']
    rw [List.take_of_length_le (by omega)] at hrow
    exact ⟨_, [r], rfl, RetR.refl _, r, rfl, hrow⟩
  have h' : (k : Int) < (e.atoms.length : Int) := by omega
  have h0 : (0 : Int) ≤ (k : Int) := by omega
  obtain ⟨a, rfl, ha⟩ := (ha3.mono hF1).elem h (by decide)
  rw [atomVals_at _ _ h] at ha
  have e2 : IntKind.i64.wrap ((k : Int) + 1) = ((k + 1 : Nat) : Int) := wrap_add k h (Nat.le_trans ha1 ha2)
  have ht : atomsL (e.atoms.take (k + 1)) = atomsL (e.atoms.take k) ++ lessL [(e.atoms[k]).1] [⟨#[]⟩] := by rw [List.take_succ_eq_append_getElem h, atomsL, List.flatMap_append]; simp [atomsL]
  have hlen := atomsL_length (e.atoms.take k)
  simp only [push_cast, ↓reduceIte, Nat.reduceEqDiff, Nat.reduceAdd, Nat.reduceMul, Nat.reduceSub, Nat.reduceLT, Nat.reduceLeDiff, reduceCtorEq, Nat.reduceMod, Int.reduceEq, Int.reduceLT, Int.reduceLE, Int.reduceToNat, dite_true, h', h0, ha]
  intro b0 b1 F2 hF2 hb2 b3 F3 hF3 hb3
  have hone : Strs F3 (.slice (some ⟨b1, 0, none⟩) 1 1) [(e.atoms[k]).1] := (strs_blk (l := [(e.atoms[k]).1]) hb2 one_max).mono hF3
  have htwo : Strs F3 (.slice (some ⟨b3, 0, none⟩) 1 1) [⟨#[]⟩] := strs_blk (l := [⟨#[]⟩]) hb3 one_max
  refine CallV.sl (less F3 _ _ _ _ hone htwo (by simp)) ?_
  intro v2 F4 m hF4 hm hv2
  obtain ⟨p2, c2, rfl, _, _, hs2⟩ := sl_strs hm hv2
  simp only [push_cast, ↓reduceIte, Nat.reduceEqDiff, Nat.reduceAdd, Nat.reduceMul, Nat.reduceSub, Nat.reduceLT, Nat.reduceLeDiff, reduceCtorEq, Nat.reduceMod, Int.reduceEq, Int.reduceLT, Int.reduceLE, Int.reduceToNat, dite_true]
  refine Eff.append (xs := (atomsL (e.atoms.take k)).map .string) (ys := (lessL [(e.atoms[k]).1] [⟨#[]⟩]).map .string) rfl rfl rfl ty33 rfl ty9 rfl (by decide) rfl rfl (List.Perm.refl _) hrow hs2 (by simp [Value.oneCell']) ?_ (by decide) ?_
  · have := lessL_length [(e.atoms[k]).1] [⟨#[]⟩]
    simp only [List.length_map, List.length_take, List.length_cons, List.length_nil] at this hlen ⊢
    omega
  intro v' r' hrow'
  simp only [push_cast, ↓reduceIte, Nat.reduceEqDiff, Nat.reduceAdd, Nat.reduceMul, Nat.reduceSub, Nat.reduceLT, Nat.reduceLeDiff, reduceCtorEq, Nat.reduceMod, Int.reduceEq, Int.reduceLT, Int.reduceLE, Int.reduceToNat, dite_true, e2]
  exact hG (k + 1, v', F4, r') _ ⟨by omega, PH.le_trans hF1 (PH.le_trans hF2 (PH.le_trans hF3 hF4)), by rw [ht, List.map_append]; exact hrow'⟩ (by simp; omega) (by simp [subk, Eng.look]) (by simp) rfl (List.Sublist.refl _)
end Go.Proofs.Ytlgfajdedmajcaa.V
