import Derived.Test.YtlgfajdedmajcaaTy
import Derived.Test.YtlgfajdedmajcaaX1
import Derived.IntWalk
namespace Go.Proofs.Ytlgfajdedmajcaa.V
open Go Go.Eng Go.Proofs Go.Proofs.Ytlgfajdedmajcaa.T
set_option linter.unusedSimpArgs false
set_option maxRecDepth 100000
theorem less1 (n s : ByteArray) (b : Nat) (F : PH) (hb : F.cell ⟨b, 0, none⟩ = some (.string s)) : PFn Try.prog 33 [.string n, .pointer (some ⟨b, 0, none⟩)] F (fun v _ => v = .bool (decide (n = s))) := by
  refine Fn.intro (n := 7) (ts := [3]) Try.func33 rfl rfl rfl rfl (by simp) fun B hB => VC.go 100 ?_
  simp only [push_cast, ↓reduceIte, Nat.reduceEqDiff, Nat.reduceAdd, Nat.reduceMul, Nat.reduceSub, Nat.reduceLT, Nat.reduceLeDiff, reduceCtorEq, Nat.reduceMod, Int.reduceEq, Int.reduceLT, Int.reduceLE, Int.reduceToNat, dite_true, hb]
  exact RetOk.p rfl rfl

theorem wrap_add (k : Nat) {c : Nat} (h : k < c) (hc : c ≤ maxLen) : IntKind.i64.wrap ((k : Int) + 1) = ((k + 1 : Nat) : Int) := by
  unfold maxLen at hc
  rw [IntWalk.i64_in _ (by omega)]
  simp


theorem some_spec (F : PH) (v : Value) (l : List ByteArray) (g : FuncId) (first cap : Array Value) (p : ByteArray → Bool) (hv : Strs F v l)
    (hg : ∀ s ∈ l, ∀ F', F.le F' → PFn Try.prog g (first.toList ++ [.string s] ++ cap.toList) F' (fun v _ => v = .bool (p s))) :
    PFn Try.prog 32 [v, .func (.func g) first cap] F (fun v _ => v = .bool (l.any p)) := by
  obtain ⟨q, c, rfl, hc1, hc2, hsrc⟩ := hv
  refine Fn.intro (n := 17) (ts := [4]) Try.func32 rfl rfl rfl rfl (by simp) fun B hB => VC.go 100 ?_
  simp only [push_cast, ↓reduceIte, Nat.reduceEqDiff, Nat.reduceAdd, Nat.reduceMul, Nat.reduceSub, Nat.reduceLT, Nat.reduceLeDiff, reduceCtorEq, Nat.reduceMod, Int.reduceEq, Int.reduceLT, Int.reduceLE, Int.reduceToNat, dite_true]
  refine VC.loop (ι := Nat × PH) (fun i => ⟨[(9, .v (.int .i64 i.1)), (8, .v (.int .i64 l.length)), (7, .v (.slice q l.length c)), (1, .v (.func (.func g) first cap))], [], i.2, [], 0⟩) (fun i => i.1 ≤ l.length ∧ F.le i.2 ∧ ∀ s ∈ l.take i.1, p s = false) (fun i => l.length - i.1) (0, F) ⟨by simp, PH.le_refl _, by simp⟩ ⟨subk_le (by simp [subk, Eng.look]), List.Sublist.refl _, rfl, List.Sublist.refl _⟩ ?_
  rintro ⟨k, F1⟩ ⟨hk, hF1, hno⟩ G hG
  refine VC.go 100 ?_
  simp only [push_cast, ↓reduceIte, Nat.reduceEqDiff, Nat.reduceAdd, Nat.reduceMul, Nat.reduceSub, Nat.reduceLT, Nat.reduceLeDiff, reduceCtorEq, Nat.reduceMod, Int.reduceEq, Int.reduceLT, Int.reduceLE, Int.reduceToNat, dite_true]
  refine cnd_mk (fun h => ?_) (fun h => ?_)
  · have hlt : k < l.length := by simpa using h
    obtain ⟨a, rfl, ha⟩ := (hsrc.mono hF1).elem1 (i := k) (v := .string l[k]) (by simp [hlt])
    simp only [push_cast, ↓reduceIte, Nat.reduceEqDiff, Nat.reduceAdd, Nat.reduceMul, Nat.reduceSub, Nat.reduceLT, Nat.reduceLeDiff, reduceCtorEq, Nat.reduceMod, Int.reduceEq, Int.reduceLT, Int.reduceLE, Int.reduceToNat, dite_true, hlt, ha]
    refine CallV.pure (hg l[k] (by simp) F1 hF1) ?_
    rintro _ F2 hF2 rfl
    simp only [push_cast, ↓reduceIte, Nat.reduceEqDiff, Nat.reduceAdd, Nat.reduceMul, Nat.reduceSub, Nat.reduceLT, Nat.reduceLeDiff, reduceCtorEq, Nat.reduceMod, Int.reduceEq, Int.reduceLT, Int.reduceLE, Int.reduceToNat, dite_true]
    refine cnd_mk (fun hp => ?_) (fun hp => ?_)
    · simp only [push_cast, ↓reduceIte, Nat.reduceEqDiff, Nat.reduceAdd, Nat.reduceMul, Nat.reduceSub, Nat.reduceLT, Nat.reduceLeDiff, reduceCtorEq, Nat.reduceMod, Int.reduceEq, Int.reduceLT, Int.reduceLE, Int.reduceToNat, dite_true]
      exact RetOk.p rfl (by
        have : l.any p = true := List.any_eq_true.2 ⟨l[k], by simp, hp⟩
        rw [this]; rfl)
    · simp only [push_cast, ↓reduceIte, Nat.reduceEqDiff, Nat.reduceAdd, Nat.reduceMul, Nat.reduceSub, Nat.reduceLT, Nat.reduceLeDiff, reduceCtorEq, Nat.reduceMod, Int.reduceEq, Int.reduceLT, Int.reduceLE, Int.reduceToNat, dite_true]
      rw [wrap_add k hlt (by omega)]
      refine hG (k + 1, F2) _ ⟨hlt, PH.le_trans hF1 hF2, fun s hs => ?_⟩ (by simp; omega) ⟨subk_le (by simp [subk, Eng.look]), List.Sublist.refl _, rfl, List.Sublist.refl _⟩
      rw [List.take_succ_eq_append_getElem hlt] at hs
      rcases List.mem_append.1 hs with hs | hs
      · exact hno s hs
      · obtain rfl := List.mem_singleton.1 hs
        exact hp
  · have hge : ¬ k < l.length := by simpa using h
    simp only [push_cast, ↓reduceIte, Nat.reduceEqDiff, Nat.reduceAdd, Nat.reduceMul, Nat.reduceSub, Nat.reduceLT, Nat.reduceLeDiff, reduceCtorEq, Nat.reduceMod, Int.reduceEq, Int.reduceLT, Int.reduceLE, Int.reduceToNat, dite_true]
    refine RetOk.p rfl (by
      have : l.any p = false := by
        rw [List.any_eq_false]
        intro s hs
        simp [hno s (by rw [List.take_of_length_le (by simpa using hge)]; exact hs)]
      rw [this]; rfl)
end Go.Proofs.Ytlgfajdedmajcaa.V
