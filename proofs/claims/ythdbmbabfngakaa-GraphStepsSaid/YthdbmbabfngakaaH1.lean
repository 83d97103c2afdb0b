/- Graphs: how they lie; real numbers, words. -/
import Derived.Test.YthdbmbabfngakaaG5
import Derived.Test.YthdbmbabfngakaaS0
namespace Go.Proofs.Ythdbmbabfngakaa.G
open Go Go.Eng Go.Proofs Go.Proofs.Ythdbmbabfngakaa.T Go.Proofs.Ythdbmbabfngakaa.K
set_option linter.unusedSimpArgs false
set_option linter.unusedVariables false
set_option maxRecDepth 100000
set_option maxHeartbeats 4000000
abbrev Ints (F : PH) (v : Value) (l : List Int) : Prop := Sl F 1 v l.length (l.map (.int .i64))
abbrev Us (F : PH) (v : Value) (l : List Int) : Prop := Sl F 1 v l.length (l.map (.int .u64))
def RNd (F : PH) (m : Nd) (cs : List Value) : Prop := ∃ vn vk, cs = [.int .i64 m.kind, .int .i64 m.info, vn, vk] ∧ Us F vn m.nons ∧ Ints F vk m.kids
theorem RNd.len {F : PH} (m : Nd) (c : List Value) (h : RNd F m c) : c.length = 4 := by obtain ⟨_, _, rfl, _⟩ := h; rfl
theorem RNd.mono {F G : PH} {m : Nd} {c : List Value} (h : RNd F m c) (hl : F.le G) : RNd G m c := by
  obtain ⟨a, b, e, h1, h2⟩ := h
  exact ⟨a, b, e, Sl.mono h1 hl, Sl.mono h2 hl⟩
abbrev Nodes (F : PH) (v : Value) (l : List Nd) : Prop := SlE F 4 (RNd F) v l
theorem Nodes.mono {F G : PH} {v : Value} {l : List Nd} (h : Nodes F v l) (hl : F.le G) : Nodes G v l := SlE.mono h hl fun _ _ _ h => h.mono hl
theorem realG (F : PH) (vr vg : Value) (l : List Nd) (k : Int) (hone : vr.oneCell' = true) (hg : Nodes F vg l) : PFn Try.prog 32 [.agg #[vr, vg], .int .i64 k] F (fun v _ => v = .int .i64 (real l.length k)) := by
  obtain ⟨p, c, rfl, _, _⟩ := hg.val
  refine Fn.intro (n := 15) (ts := [4]) Try.func32 rfl rfl rfl rfl (by simp) fun B hB => VC.go 100 ?_
  simp only [push_cast, ↓reduceIte, Nat.reduceEqDiff, Nat.reduceAdd, Nat.reduceMul, Nat.reduceSub, Nat.reduceLT, Nat.reduceLeDiff, reduceCtorEq, Nat.reduceMod, Int.reduceEq, Int.reduceLT, Int.reduceLE, Int.reduceToNat, dite_true, hone]
  intro b2
  by_cases h : k < 0
  · rw [show real l.length k = -1 from if_pos (.inl h)]
    simp only [push_cast, ↓reduceIte, Nat.reduceEqDiff, Nat.reduceAdd, Nat.reduceMul, Nat.reduceSub, Nat.reduceLT, Nat.reduceLeDiff, reduceCtorEq, Nat.reduceMod, Int.reduceEq, Int.reduceLT, Int.reduceLE, Int.reduceToNat, dite_true, eq_true h]
    exact RetOk.p rfl rfl
  by_cases h2 : k ≥ (l.length : Int)
  · rw [show real l.length k = -1 from if_pos (.inr h2)]
    simp only [push_cast, ↓reduceIte, Nat.reduceEqDiff, Nat.reduceAdd, Nat.reduceMul, Nat.reduceSub, Nat.reduceLT, Nat.reduceLeDiff, reduceCtorEq, Nat.reduceMod, Int.reduceEq, Int.reduceLT, Int.reduceLE, Int.reduceToNat, dite_true, h, eq_true h2]
    exact RetOk.p rfl rfl
  · rw [show real l.length k = k from if_neg (fun e => e.elim h h2)]
    simp only [push_cast, ↓reduceIte, Nat.reduceEqDiff, Nat.reduceAdd, Nat.reduceMul, Nat.reduceSub, Nat.reduceLT, Nat.reduceLeDiff, reduceCtorEq, Nat.reduceMod, Int.reduceEq, Int.reduceLT, Int.reduceLE, Int.reduceToNat, dite_true, h, h2]
    exact RetOk.p rfl rfl
theorem realR (F : PH) (vr vg : Value) (l : List Nd) (k : Int) (hone : vr.oneCell' = true) (hg : Nodes F vg l) : PFn Try.prog 34 [.agg #[vr, vg], .int .i64 k] F (fun v _ => v = .int .i64 (real l.length k)) := by
  obtain ⟨p, c, rfl, _, _⟩ := hg.val
  refine Fn.intro (n := 15) (ts := [4]) Try.func34 rfl rfl rfl rfl (by simp) fun B hB => VC.go 100 ?_
  simp only [push_cast, ↓reduceIte, Nat.reduceEqDiff, Nat.reduceAdd, Nat.reduceMul, Nat.reduceSub, Nat.reduceLT, Nat.reduceLeDiff, reduceCtorEq, Nat.reduceMod, Int.reduceEq, Int.reduceLT, Int.reduceLE, Int.reduceToNat, dite_true, hone]
  intro b2
  by_cases h : k < 0
  · rw [show real l.length k = -1 from if_pos (.inl h)]
    simp only [push_cast, ↓reduceIte, Nat.reduceEqDiff, Nat.reduceAdd, Nat.reduceMul, Nat.reduceSub, Nat.reduceLT, Nat.reduceLeDiff, reduceCtorEq, Nat.reduceMod, Int.reduceEq, Int.reduceLT, Int.reduceLE, Int.reduceToNat, dite_true, eq_true h]
    exact RetOk.p rfl rfl
  by_cases h2 : k ≥ (l.length : Int)
  · rw [show real l.length k = -1 from if_pos (.inr h2)]
    simp only [push_cast, ↓reduceIte, Nat.reduceEqDiff, Nat.reduceAdd, Nat.reduceMul, Nat.reduceSub, Nat.reduceLT, Nat.reduceLeDiff, reduceCtorEq, Nat.reduceMod, Int.reduceEq, Int.reduceLT, Int.reduceLE, Int.reduceToNat, dite_true, h, eq_true h2]
    exact RetOk.p rfl rfl
  · rw [show real l.length k = k from if_neg (fun e => e.elim h h2)]
    simp only [push_cast, ↓reduceIte, Nat.reduceEqDiff, Nat.reduceAdd, Nat.reduceMul, Nat.reduceSub, Nat.reduceLT, Nat.reduceLeDiff, reduceCtorEq, Nat.reduceMod, Int.reduceEq, Int.reduceLT, Int.reduceLE, Int.reduceToNat, dite_true, h, h2]
    exact RetOk.p rfl rfl
theorem wrap_l (a b : Int) : IntKind.i64.wrap (IntKind.i64.wrap a + b) = IntKind.i64.wrap (a + b) := by
  rw [IntKind.wrap_i64, IntKind.wrap_i64 a, IntKind.wrap_i64]
  congr 1
  rw [show (a + 9223372036854775808) % 18446744073709551616 - 9223372036854775808 + b + 9223372036854775808 = (a + 9223372036854775808) % 18446744073709551616 + b from by
    generalize (a + 9223372036854775808) % 18446744073709551616 = z; omega, Int.emod_add_emod, show a + 9223372036854775808 + b = a + b + 9223372036854775808 from by omega]
theorem wrap_r (a b : Int) : IntKind.i64.wrap (a + IntKind.i64.wrap b) = IntKind.i64.wrap (a + b) := by rw [Int.add_comm, wrap_l, Int.add_comm]
def wordN (n : Int) (m : Nd) : Int := IntKind.i64.wrap (n + (1 + (m.kids.length : Int) + (m.nons.length : Int)))
def words (l : List Nd) : Int := l.foldl wordN 0
theorem wordsG (F : PH) (vr vg : Value) (l : List Nd) (hone : vr.oneCell' = true) (hg : Nodes F vg l) : PFn Try.prog 16 [.agg #[vr, vg]] F (fun v _ => v = .int .i64 (words l)) := by
  have hg' := hg
  obtain ⟨p, c, rfl, hl1, hl2⟩ := hg.val
  refine Fn.intro (n := 25) (ts := [2]) Try.func16 rfl rfl rfl rfl (by simp) fun B hB => VC.go 100 ?_
  simp only [push_cast, ↓reduceIte, Nat.reduceEqDiff, Nat.reduceAdd, Nat.reduceMul, Nat.reduceSub, Nat.reduceLT, Nat.reduceLeDiff, reduceCtorEq, Nat.reduceMod, Int.reduceEq, Int.reduceLT, Int.reduceLE, Int.reduceToNat, dite_true, hone]
  intro b1
  refine VC.loopL (fun i : Nat => [(9, .v (.int .i64 i)), (8, .v (.int .i64 l.length)), (7, .v (.slice p l.length c)), (3, .v (.int .i64 ((l.take i).foldl wordN 0)))]) (fun i => i ≤ l.length) (fun i => l.length - i) 0 (Nat.zero_le _) (by simp [subk, Eng.look]) ?_
  intro i hi G hG
  refine VC.go 100 ?_
  by_cases h : i < l.length
  case neg =>
    have h' : ¬ (i : Int) < (l.length : Int) := by omega
    rw [List.take_of_length_le (by omega)]
    simp only [push_cast, ↓reduceIte, Nat.reduceEqDiff, Nat.reduceAdd, Nat.reduceMul, Nat.reduceSub, Nat.reduceLT, Nat.reduceLeDiff, reduceCtorEq, Nat.reduceMod, Int.reduceEq, Int.reduceLT, Int.reduceLE, Int.reduceToNat, dite_true, h']
    exact RetOk.p rfl rfl
  have h' : (i : Int) < (l.length : Int) := by omega
  have h0 : (0 : Int) ≤ (i : Int) := by omega
  have e2 : IntKind.i64.wrap ((i : Int) + 1) = ((i + 1 : Nat) : Int) := wadd i h (Nat.le_trans hl1 hl2)
  obtain ⟨q, _, cs, eq, _, _, kl, kr⟩ := hg'.elem (by decide) (i := i) (a := l[i]) (List.getElem?_eq_getElem h) RNd.len
  cases eq
  obtain ⟨vn, vk, rfl, ⟨pn, cn, rfl, _⟩, ⟨pk, ck, rfl, _⟩⟩ := kr
  have ht : (l.take (i + 1)).foldl wordN 0 = IntKind.i64.wrap ((l.take i).foldl wordN 0 + IntKind.i64.wrap (IntKind.i64.wrap (1 + (l[i].kids.length : Int)) + (l[i].nons.length : Int))) := by
    rw [List.take_succ_eq_append_getElem h, List.foldl_append]
    show wordN _ _ = _
    rw [wrap_l, wrap_r]
    rfl
  simp only [push_cast, ↓reduceIte, Nat.reduceEqDiff, Nat.reduceAdd, Nat.reduceMul, Nat.reduceSub, Nat.reduceLT, Nat.reduceLeDiff, reduceCtorEq, Nat.reduceMod, Int.reduceEq, Int.reduceLT, Int.reduceLE, Int.reduceToNat, dite_true, h', h0, kl]
  intro b5
  simp only [push_cast, ↓reduceIte, Nat.reduceEqDiff, Nat.reduceAdd, Nat.reduceMul, Nat.reduceSub, Nat.reduceLT, Nat.reduceLeDiff, reduceCtorEq, Nat.reduceMod, Int.reduceEq, Int.reduceLT, Int.reduceLE, Int.reduceToNat, dite_true, e2]
  exact hG (i + 1) _ h (by omega) (by simp [subk, Eng.look, ht]) (by simp) rfl rfl
end Go.Proofs.Ythdbmbabfngakaa.G
