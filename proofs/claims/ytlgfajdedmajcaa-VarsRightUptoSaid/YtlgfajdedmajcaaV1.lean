/- Lists of names: less and once. -/
import Derived.Test.YtlgfajdedmajcaaV0
import Derived.Test.YtlgfajdedmajcaaC1
namespace Go.Proofs.Ytlgfajdedmajcaa.V
open Go Go.Eng Go.Proofs Go.Proofs.Ytlgfajdedmajcaa.T
set_option linter.unusedSimpArgs false
set_option maxRecDepth 100000
def lessL (l names : List ByteArray) : List ByteArray := l.filter (fun s => !names.any (fun n => decide (n = s)))
theorem lessL_length (l names : List ByteArray) : (lessL l names).length ≤ l.length := List.length_filter_le _ _
theorem lessL_append (a b names : List ByteArray) : lessL (a ++ b) names = lessL a names ++ lessL b names := List.filter_append ..
abbrev RowS (P : Program) (f : FuncId) (args : List Value) (F : PH) (l : List ByteArray) : Prop := RowFn P f args F 9 1 (l.map .string)
theorem less (F : PH) (lv nv : Value) (l names : List ByteArray) (hl : Strs F lv l) (hn : Strs F nv names) (hb : l.length ≤ 100000000) : RowS Try.prog 27 [lv, nv] F (lessL l names) := by
  obtain ⟨pl, cl, rfl, hl1, hl2, hl3⟩ := hl
  have hn' := hn
  obtain ⟨pn, cn, rfl, hn1, hn2, hn3⟩ := hn
  refine Fn.intro (n := 24) (ts := [4]) Try.func27 rfl rfl rfl rfl (by simp) fun B hB => VC.emp ?_
  refine VC.go 100 ?_
  simp only [push_cast, ↓reduceIte, Nat.reduceEqDiff, Nat.reduceAdd, Nat.reduceMul, Nat.reduceSub, Nat.reduceLT, Nat.reduceLeDiff, reduceCtorEq, Nat.reduceMod, Int.reduceEq, Int.reduceLT, Int.reduceLE, Int.reduceToNat, dite_true]
  refine VC.loopR (ι := Nat × Value × PH × PH) (fun i => [(10, .v (.int .i64 i.1)), (9, .v (.int .i64 l.length)), (8, .v (.slice pl l.length cl)), (5, .v i.2.1), (1, .v (.slice pn names.length cn))]) (fun i => i.2.2.1) (fun i => i.2.2.2) [] (fun i => i.1 ≤ l.length ∧ F.le i.2.2.1 ∧ Row i.2.2.2 9 1 i.2.1 ((lessL (l.take i.1) names).map .string)) (fun i => l.length - i.1) (0, .slice none 0 0, F, PH.emp) ⟨Nat.zero_le _, PH.le_refl _, Row.nil _ _⟩ (by simp [subk, Eng.look]) rfl rfl ?_
  rintro ⟨k, v, F1, r⟩ ⟨hk, hF1, hrow⟩ G hG
  dsimp only at hk hF1 hrow hG ⊢
  by_cases h : k < l.length
  case neg =>
    refine VC.go 100 ?_
    have h' : ¬ (k : Int) < (l.length : Int) := by omega
    simp only [push_cast, ↓reduceIte, Nat.reduceEqDiff, Nat.reduceAdd, Nat.reduceMul, Nat.reduceSub, Nat.reduceLT, Nat.reduceLeDiff, reduceCtorEq, Nat.reduceMod, Int.reduceEq, Int.reduceLT, Int.reduceLE, Int.reduceToNat, dite_true, h']
    rw [List.take_of_length_le (by omega)] at hrow
    exact ⟨_, [r], rfl, RetR.refl _, r, rfl, hrow⟩
  have h' : (k : Int) < (l.length : Int) := by omega
  have h0 : (0 : Int) ≤ (k : Int) := by omega
  obtain ⟨a, rfl, ha⟩ := (hl3.mono hF1).elem1 (i := k) (v := .string l[k]) (by simp [h])
  refine VC.go 10 ?_
  simp only [push_cast, ↓reduceIte, Nat.reduceEqDiff, Nat.reduceAdd, Nat.reduceMul, Nat.reduceSub, Nat.reduceLT, Nat.reduceLeDiff, reduceCtorEq, Nat.reduceMod, Int.reduceEq, Int.reduceLT, Int.reduceLE, Int.reduceToNat, dite_true, h', h0, ha]
  intro b
  refine VC.freeze (List.Perm.refl _) fun F2 hF2 hb2 => ?_
  refine VC.reL [(7, .v (.pointer (some ⟨b, 0, none⟩))), (10, .v (.int .i64 k)), (9, .v (.int .i64 l.length)), (8, .v (.slice (some a) l.length cl)), (5, .v v), (1, .v (.slice pn names.length cn))] (by simp [subv, Eng.look, AV.val]) ?_
  have hc : F2.cell ⟨b, 0, none⟩ = some (.string l[k]) := by simp [PH.cell, hb2]
  refine VC.go 100 ?_
  simp only [push_cast, ↓reduceIte, Nat.reduceEqDiff, Nat.reduceAdd, Nat.reduceMul, Nat.reduceSub, Nat.reduceLT, Nat.reduceLeDiff, reduceCtorEq, Nat.reduceMod, Int.reduceEq, Int.reduceLT, Int.reduceLE, Int.reduceToNat, dite_true]
  refine CallV.pure (some_spec F2 _ names _ #[] #[.pointer (some ⟨b, 0, none⟩)] (fun n => decide (n = l[k])) ((hn'.mono hF1).mono hF2) fun s _ F' hF' => less1 s l[k] b F' (hF'.cell hc)) ?_
  rintro _ F3 hF3 rfl
  have e2 : IntKind.i64.wrap ((k : Int) + 1) = ((k + 1 : Nat) : Int) := wrap_add k h (Nat.le_trans hl1 hl2)
  have ht : lessL (l.take (k + 1)) names = lessL (l.take k) names ++ lessL [l[k]] names := by rw [List.take_succ_eq_append_getElem h, lessL_append]
  have hF13 := PH.le_trans hF2 hF3
  by_cases hs : names.any (fun n => decide (n = l[k])) = true
  · simp only [push_cast, ↓reduceIte, Nat.reduceEqDiff, Nat.reduceAdd, Nat.reduceMul, Nat.reduceSub, Nat.reduceLT, Nat.reduceLeDiff, reduceCtorEq, Nat.reduceMod, Int.reduceEq, Int.reduceLT, Int.reduceLE, Int.reduceToNat, dite_true, hs, e2]
    rw [show lessL [l[k]] names = [] from by simp [lessL, hs], List.append_nil] at ht
    exact hG (k + 1, v, F3, r) _ ⟨by omega, PH.le_trans hF1 hF13, by rw [ht]; exact hrow⟩ (by simp; omega) (by simp [subk, Eng.look]) (List.Sublist.refl _) rfl rfl
  · have hs' : names.any (fun n => decide (n = l[k])) = false := Bool.eq_false_iff.2 hs
    simp only [push_cast, ↓reduceIte, Nat.reduceEqDiff, Nat.reduceAdd, Nat.reduceMul, Nat.reduceSub, Nat.reduceLT, Nat.reduceLeDiff, reduceCtorEq, Nat.reduceMod, Int.reduceEq, Int.reduceLT, Int.reduceLE, Int.reduceToNat, dite_true, hs', hF3.cell hc]
    intro b2 F4 hF4 hb4
    rw [show lessL [l[k]] names = [l[k]] from by simp [lessL, hs']] at ht
    refine Eff.append (xs := (lessL (l.take k) names).map .string) (ys := [.string l[k]]) rfl rfl rfl ty33 rfl ty9 rfl (by decide) rfl rfl (List.Perm.refl _) hrow (Src.blk hb4 rfl) (by simp [Value.oneCell']) ?_ (by decide) ?_
    · have := lessL_length (l.take k) names
      simp only [List.length_map, List.length_take, List.length_cons, List.length_nil] at this ⊢
      omega
    intro v' r' hrow'
    simp only [push_cast, ↓reduceIte, Nat.reduceEqDiff, Nat.reduceAdd, Nat.reduceMul, Nat.reduceSub, Nat.reduceLT, Nat.reduceLeDiff, reduceCtorEq, Nat.reduceMod, Int.reduceEq, Int.reduceLT, Int.reduceLE, Int.reduceToNat, dite_true, e2]
    exact hG (k + 1, v', F4, r') _ ⟨by omega, PH.le_trans (PH.le_trans hF1 hF13) hF4, by rw [ht, List.map_append]; exact hrow'⟩ (by simp; omega) (by simp [subk, Eng.look]) (List.Sublist.refl _) rfl rfl
end Go.Proofs.Ytlgfajdedmajcaa.V
