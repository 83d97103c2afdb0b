/- My texts LI LJ LW LM, in one. -/
import Derived.Test.YtmiekonofocboaaGreatDoorLE
import Derived.Test.YtmiekonofocboaaGreatDoorWD
/- The numbers that words are: what the program and the definition tell. -/
namespace Go.Proofs.YtmiekonofocboaaGreatDoor.Q
open Go Go.Eng Go.Lib Go.Proofs Go.Proofs.YtmiekonofocboaaGreatDoor.T Go.Proofs.YtmiekonofocboaaGreatDoor.K Go.Proofs.YtmiekonofocboaaGreatDoor.X
set_option linter.unusedSimpArgs false
set_option linter.unusedVariables false
set_option linter.unusedSectionVars false
set_option maxRecDepth 100000
set_option maxHeartbeats 4000000
noncomputable def numsP : List ByteArray → Option (List Int)
  | [] => some []
  | w :: l => match numberP w, numsP l with
    | some n, some r => some (n :: r)
    | _, _ => none
/-- What came of the words: a slice of their numbers, or nothing. -/
def NumsV (F : PH) (v : Value) : Option (List Int) → Prop
  | some ns => ∃ sl, v = .tuple #[sl, .bool true] ∧ Ints F sl ns
  | none => v = .tuple #[.slice none 0 0, .bool false]
theorem ints_row {r F : PH} {e : TypeId} {v : Value} {l : List Int} (h : Row r e 1 v (l.map (.int .i64))) (hl : r.le F) : Ints F v l := by
  obtain ⟨m, h1, h2⟩ := h.sl hl
  simp at h1
  unfold Ints
  rw [h1]
  exact h2
theorem numsP_step {l : List ByteArray} {j : Nat} (h : j < l.length) {acc : List Int} {o : Option (List Int)} (ho : o = (numsP (l.drop j)).map (acc ++ ·)) : (∀ n, numberP l[j] = some n → o = (numsP (l.drop (j + 1))).map ((acc ++ [n]) ++ ·)) ∧ (numberP l[j] = none → o = none) := by
  rw [List.drop_eq_getElem_cons h] at ho
  simp only [numsP] at ho
  constructor
  · intro n hn
    rw [hn] at ho
    rw [ho]
    cases numsP (l.drop (j + 1)) <;> simp
  · intro hn
    rw [hn] at ho
    rw [ho]
    cases numsP (l.drop (j + 1)) <;> rfl
theorem numbers (l : List ByteArray) (hw : ∀ w ∈ l, w.size ≤ 100000000) (hlen : l.length ≤ 100000000) (F : PH) (v : Value) (hv : Strs F v l) : PFn Tryz.prog 29 [v] F (fun u F' => NumsV F' u (numsP l)) := by
  obtain ⟨p, c, rfl, hnc, hcm, hsrc⟩ := hv
  refine Fn.intro (n := 28) (ts := [2, 3]) Tryz.func29 rfl rfl rfl rfl (by simp) fun B hB => VC.emp (VC.go 100 ?_)
  simp only [push_cast, ↓reduceIte, Nat.reduceEqDiff, Nat.reduceAdd, Nat.reduceMul, Nat.reduceSub, Nat.reduceLT, Nat.reduceLeDiff, reduceCtorEq, Nat.reduceMod, Int.reduceEq, Int.reduceLT, Int.reduceLE, Int.reduceToNat, dite_true]
  refine VC.loopR (ι := Nat × List Int × Value × PH × PH) (fun i => [(11, .v (.int .i64 (i.1 : Int))), (10, .v (.int .i64 (l.length : Int))), (9, .v (.slice p l.length c)), (4, .v i.2.2.1)]) (fun i => i.2.2.2.2) (fun i => i.2.2.2.1) [] (fun i => i.1 ≤ l.length ∧ F.le i.2.2.2.2 ∧ i.2.1.length = i.1 ∧ Row i.2.2.2.1 2 1 i.2.2.1 (i.2.1.map (.int .i64)) ∧ numsP l = (numsP (l.drop i.1)).map (i.2.1 ++ ·)) (fun i => l.length - i.1) (0, [], .slice none 0 0, PH.emp, F) ⟨Nat.zero_le _, PH.le_refl _, rfl, Row.nil _ _, by simp⟩ (by simp [subk, Eng.look]) rfl rfl ?_
  rintro ⟨j, acc, v4, r, F1⟩ ⟨hj, hF1, hal, hr, hnp⟩ G hG
  dsimp only at hj hF1 hal hr hnp hG ⊢
  rcases Nat.lt_or_ge j l.length with hlt | hge
  · refine VC.go 100 ?_
    obtain ⟨p4, n4, c4, rfl⟩ := hr.val
    obtain ⟨st1, st2⟩ := numsP_step hlt hnp
    obtain ⟨a, rfl, hca⟩ := (hsrc.mono hF1).elem1 (i := j) (v := .string l[j]) (by simp [hlt])
    have hw1 : IntKind.i64.wrap ((j : Int) + 1) = (j : Int) + 1 := IntWalk.i64_in _ (by omega)
    simp only [push_cast, ↓reduceIte, Nat.reduceEqDiff, Nat.reduceAdd, Nat.reduceMul, Nat.reduceSub, Nat.reduceLT, Nat.reduceLeDiff, reduceCtorEq, Nat.reduceMod, Int.reduceEq, Int.reduceLT, Int.reduceLE, Int.reduceToNat, dite_true, eq_true (show (j : Int) < (l.length : Int) by omega), hca, eq_true hlt, Nat.mul_one]
    have hnum := p_num l[j] (hw _ (List.getElem_mem hlt)) F1
    refine CallV.pure hnum ?_
    rintro _ F2 hF2 rfl
    cases hq : numberP l[j] with
    | none =>
      simp only [push_cast, ↓reduceIte, Nat.reduceEqDiff, Nat.reduceAdd, Nat.reduceMul, Nat.reduceSub, Nat.reduceLT, Nat.reduceLeDiff, reduceCtorEq, Nat.reduceMod, Int.reduceEq, Int.reduceLT, Int.reduceLE, Int.reduceToNat, dite_true, numV]
      exact RetOk.p rfl (by rw [st2 hq]; rfl)
    | some n =>
      simp only [push_cast, ↓reduceIte, Nat.reduceEqDiff, Nat.reduceAdd, Nat.reduceMul, Nat.reduceSub, Nat.reduceLT, Nat.reduceLeDiff, reduceCtorEq, Nat.reduceMod, Int.reduceEq, Int.reduceLT, Int.reduceLE, Int.reduceToNat, dite_true, numV]
      intro b5 F5 hF5 hb5
      refine Eff.append (xs := acc.map (.int .i64)) (ys := [.int .i64 n]) rfl rfl rfl ty47 rfl ty2 rfl (by decide) rfl rfl (List.Perm.refl _) hr (Src.blk hb5 rfl) (by simp [Value.oneCell']) (by simp; omega) (by decide) ?_
      intro v' r' hr'
      rw [show acc.map (Value.int .i64) ++ [Value.int .i64 n] = (acc ++ [n]).map (.int .i64) by simp] at hr'
      simp only [push_cast, ↓reduceIte, Nat.reduceEqDiff, Nat.reduceAdd, Nat.reduceMul, Nat.reduceSub, Nat.reduceLT, Nat.reduceLeDiff, reduceCtorEq, Nat.reduceMod, Int.reduceEq, Int.reduceLT, Int.reduceLE, Int.reduceToNat, dite_true, hw1]
      exact hG (j + 1, acc ++ [n], v', r', F5) _ ⟨by dsimp only; omega, PH.le_trans (PH.le_trans hF1 hF2) hF5, by simp; omega, hr', st1 n hq⟩ (by dsimp only; omega) (by simp [subk, Eng.look]) (List.Sublist.refl _) rfl rfl
  · obtain rfl : j = l.length := by omega
    refine VC.freezeR (List.Perm.refl _) fun F2 hF2 hl2 => VC.go 100 ?_
    simp only [push_cast, ↓reduceIte, Nat.reduceEqDiff, Nat.reduceAdd, Nat.reduceMul, Nat.reduceSub, Nat.reduceLT, Nat.reduceLeDiff, reduceCtorEq, Nat.reduceMod, Int.reduceEq, Int.reduceLT, Int.reduceLE, Int.reduceToNat, dite_true, eq_false (show ¬ (l.length : Int) < (l.length : Int) by omega)]
    rw [List.drop_length] at hnp
    exact RetOk.p rfl (by rw [hnp]; exact ⟨_, rfl, by simpa using ints_row hr hl2⟩)
theorem ref_numbers (l : List ByteArray) (k : Nat) (hk : k ≤ 100000000) (hw : ∀ w ∈ l, w.size ≤ 100000000) (hlen : l.length ≤ 100000000) (F : PH) (v : Value) (hv : Strs F v l) : PFn Tryz.prog 19 [v, .int .i64 k] F (fun u F' => NumsV F' u (numsP (l.drop k))) := by
  obtain ⟨p, c, rfl, hnc, hcm, hsrc⟩ := hv
  refine Fn.intro (n := 32) (ts := [4, 5]) Tryz.func19 rfl rfl rfl rfl (by simp) fun B hB => VC.emp (VC.go 100 ?_)
  simp only [push_cast, ↓reduceIte, Nat.reduceEqDiff, Nat.reduceAdd, Nat.reduceMul, Nat.reduceSub, Nat.reduceLT, Nat.reduceLeDiff, reduceCtorEq, Nat.reduceMod, Int.reduceEq, Int.reduceLT, Int.reduceLE, Int.reduceToNat, dite_true]
  refine VC.loopR (ι := Nat × List Int × Value × PH × PH) (fun i => [(7, .v (.int .i64 (i.1 : Int))), (6, .v i.2.2.1), (0, .v (.slice p l.length c))]) (fun i => i.2.2.2.2) (fun i => i.2.2.2.1) [] (fun i => F.le i.2.2.2.2 ∧ i.1 ≤ k + l.length ∧ i.2.1.length ≤ i.1 ∧ Row i.2.2.2.1 2 1 i.2.2.1 (i.2.1.map (.int .i64)) ∧ numsP (l.drop k) = (numsP (l.drop i.1)).map (i.2.1 ++ ·)) (fun i => l.length - i.1) (k, [], .slice none 0 0, PH.emp, F) ⟨PH.le_refl _, Nat.le_add_right _ _, Nat.zero_le _, Row.nil _ _, by simp⟩ (by simp [subk, Eng.look]) rfl rfl ?_
  rintro ⟨j, acc, v4, r, F1⟩ ⟨hF1, hjk, hal, hr, hnp⟩ G hG
  dsimp only at hF1 hjk hal hr hnp hG ⊢
  rcases Nat.lt_or_ge j l.length with hlt | hge
  · refine VC.go 100 ?_
    obtain ⟨p4, n4, c4, rfl⟩ := hr.val
    obtain ⟨st1, st2⟩ := numsP_step hlt hnp
    obtain ⟨a, rfl, hca⟩ := (hsrc.mono hF1).elem1 (i := j) (v := .string l[j]) (by simp [hlt])
    have hw1 : IntKind.i64.wrap ((j : Int) + 1) = (j : Int) + 1 := IntWalk.i64_in _ (by omega)
    simp only [push_cast, ↓reduceIte, Nat.reduceEqDiff, Nat.reduceAdd, Nat.reduceMul, Nat.reduceSub, Nat.reduceLT, Nat.reduceLeDiff, reduceCtorEq, Nat.reduceMod, Int.reduceEq, Int.reduceLT, Int.reduceLE, Int.reduceToNat, dite_true, eq_true (show (j : Int) < (l.length : Int) by omega), hca, eq_true hlt, Nat.mul_one]
    have hnum := ref_number l[j] (hw _ (List.getElem_mem hlt)) F1
    refine CallV.pure hnum ?_
    rintro _ F2 hF2 rfl
    cases hq : numberP l[j] with
    | none =>
      simp only [push_cast, ↓reduceIte, Nat.reduceEqDiff, Nat.reduceAdd, Nat.reduceMul, Nat.reduceSub, Nat.reduceLT, Nat.reduceLeDiff, reduceCtorEq, Nat.reduceMod, Int.reduceEq, Int.reduceLT, Int.reduceLE, Int.reduceToNat, dite_true, numV]
      exact RetOk.p rfl (by rw [st2 hq]; rfl)
    | some n =>
      simp only [push_cast, ↓reduceIte, Nat.reduceEqDiff, Nat.reduceAdd, Nat.reduceMul, Nat.reduceSub, Nat.reduceLT, Nat.reduceLeDiff, reduceCtorEq, Nat.reduceMod, Int.reduceEq, Int.reduceLT, Int.reduceLE, Int.reduceToNat, dite_true, numV]
      intro b5 F5 hF5 hb5
      refine Eff.append (xs := acc.map (.int .i64)) (ys := [.int .i64 n]) rfl rfl rfl ty47 rfl ty2 rfl (by decide) rfl rfl (List.Perm.refl _) hr (Src.blk hb5 rfl) (by simp [Value.oneCell']) (by simp; omega) (by decide) ?_
      intro v' r' hr'
      rw [show acc.map (Value.int .i64) ++ [Value.int .i64 n] = (acc ++ [n]).map (.int .i64) by simp] at hr'
      simp only [push_cast, ↓reduceIte, Nat.reduceEqDiff, Nat.reduceAdd, Nat.reduceMul, Nat.reduceSub, Nat.reduceLT, Nat.reduceLeDiff, reduceCtorEq, Nat.reduceMod, Int.reduceEq, Int.reduceLT, Int.reduceLE, Int.reduceToNat, dite_true, hw1]
      exact hG (j + 1, acc ++ [n], v', r', F5) _ ⟨PH.le_trans (PH.le_trans hF1 hF2) hF5, by dsimp only; omega, by simp; omega, hr', st1 n hq⟩ (by dsimp only; omega) (by simp [subk, Eng.look]) (List.Sublist.refl _) rfl rfl
  · refine VC.freezeR (List.Perm.refl _) fun F2 hF2 hl2 => VC.go 100 ?_
    simp only [push_cast, ↓reduceIte, Nat.reduceEqDiff, Nat.reduceAdd, Nat.reduceMul, Nat.reduceSub, Nat.reduceLT, Nat.reduceLeDiff, reduceCtorEq, Nat.reduceMod, Int.reduceEq, Int.reduceLT, Int.reduceLE, Int.reduceToNat, dite_true, eq_false (show ¬ (j : Int) < (l.length : Int) by omega)]
    rw [List.drop_eq_nil_of_le hge] at hnp
    exact RetOk.p rfl (by rw [hnp]; exact ⟨_, rfl, by simpa using ints_row hr hl2⟩)
end Go.Proofs.YtmiekonofocboaaGreatDoor.Q

/- The line of a heap: what the program and the definition read. -/
namespace Go.Proofs.YtmiekonofocboaaGreatDoor.Q
open Go Go.Eng Go.Lib Go.Proofs Go.Proofs.YtmiekonofocboaaGreatDoor.T Go.Proofs.YtmiekonofocboaaGreatDoor.K Go.Proofs.YtmiekonofocboaaGreatDoor.X
set_option linter.unusedSimpArgs false
set_option linter.unusedVariables false
set_option linter.unusedSectionVars false
set_option maxRecDepth 100000
set_option maxHeartbeats 4000000
theorem split_ne (s : ByteArray) (c : Int) : ∃ w r, splitP s c = w :: r := by
  have key : ∀ n a i, ∃ w r, splitF s c n a i = w :: r := by
    intro n
    induction n with
    | zero => intro a i; exact ⟨_, _, rfl⟩
    | succ n ih =>
      intro a i
      simp only [splitF]
      split
      · split
        · exact ⟨_, _, rfl⟩
        · exact ih a (i + 1)
      · exact ⟨_, _, rfl⟩
  exact key _ 0 0
theorem sum_mem : ∀ {l : List ByteArray} {w : ByteArray}, w ∈ l → w.size ≤ sumOf ByteArray.size l
  | e :: l, t, h => by
    simp only [sumOf]
    rcases List.mem_cons.1 h with rfl | h
    · omega
    · have := sum_mem h; omega
theorem split_mem {s : ByteArray} {c : Int} {w : ByteArray} (h : w ∈ splitP s c) : w.size ≤ s.size := Nat.le_trans (sum_mem h) (splitP_sum s c)
noncomputable def heapP (s : ByteArray) : Option (Int × Int × Int × Int × Int × Int) :=
  match splitP s 32 with
  | [] => none
  | w0 :: r => if w0 = heapW then (match numsP r with
    | some [a, b, c, d, e, f] => some (a, b, c, d, e, f)
    | _ => none) else none
def confV (k : Int × Int × Int × Int × Int × Int) : Value := .agg #[.int .i64 k.1, .int .i64 k.2.1, .int .i64 k.2.2.1, .int .i64 k.2.2.2.1, .int .i64 k.2.2.2.2.1]
noncomputable def heapV (s : ByteArray) : Value :=
  match heapP s with
  | some k => .tuple #[confV k, .int .i64 k.2.2.2.2.2, .bool true]
  | none => .tuple #[confV (0, 0, 0, 0, 0, 0), .int .i64 0, .bool false]
/-- The parts behind the first one. -/
theorem strs_tail {F : PH} {p : Option Addr} {c : Nat} {w0 : ByteArray} {r : List ByteArray} (hn : r.length + 1 ≤ c) (hc : c ≤ maxLen) (h : Src F p ((w0 :: r).length * 1) ((w0 :: r).map .string)) :
    Strs F (.slice (if c = 1 then p else Option.map (fun x => x.add (1 * 1)) p) (r.length + 1 - 1) (c - 1)) r := by
  rw [Nat.add_sub_cancel]
  refine ⟨_, _, rfl, by omega, by omega, by simp, fun hp => ?_⟩
  obtain ⟨a, rfl, hcl⟩ := h.2 (by simp)
  rw [Nat.mul_one] at hp
  rw [if_neg (by omega)]
  refine ⟨_, rfl, ?_⟩
  have := cells_sub hcl (o := 1) (m := r.length * 1) (by simp; omega)
  rw [this]
  simp [List.take_of_length_le]
theorem head_cell {F : PH} {p : Option Addr} {w0 : ByteArray} {r : List ByteArray} (h : Src F p ((w0 :: r).length * 1) ((w0 :: r).map .string)) : ∃ a, p = some a ∧ F.cell a = some (.string w0) := by
  obtain ⟨a, rfl, hcl⟩ := h.2 (by simp)
  refine ⟨a, rfl, ?_⟩
  have := cell_at hcl (o := 0) (v := .string w0) rfl
  rwa [add_zero'] at this
theorem heap (s : ByteArray) (hs : s.size ≤ 60000000) (F : PH) : PFn Tryz.prog 16 [.string s] F (fun v _ => v = heapV s) := by
  refine Fn.intro (n := 49) (ts := [.cell 2 23, 3, 4]) Tryz.func16 rfl rfl rfl rfl (by simp) fun B hB => VC.go 100 ?_
  simp only [push_cast, ↓reduceIte, Nat.reduceEqDiff, Nat.reduceAdd, Nat.reduceMul, Nat.reduceSub, Nat.reduceLT, Nat.reduceLeDiff, reduceCtorEq, Nat.reduceMod, Int.reduceEq, Int.reduceLT, Int.reduceLE, Int.reduceToNat, dite_true]
  intro b2
  obtain ⟨w0, r, hwr⟩ := split_ne s 32
  have hsp := split s 32 (by omega) F
  have hmem : ∀ w ∈ splitP s 32, w.size ≤ s.size := fun w h => split_mem h
  have hlen := splitP_len s 32
  rw [hwr] at hsp hmem hlen
  refine CallV.pure hsp ?_
  rintro _ F1 hF1 ⟨p, c, rfl, hnc, hcm, hsrc⟩
  have f1 := eq_true (show (1 : Int) ≤ (r.length : Int) + 1 by omega)
  simp only [push_cast, ↓reduceIte, Nat.reduceEqDiff, Nat.reduceAdd, Nat.reduceMul, Nat.reduceSub, Nat.reduceLT, Nat.reduceLeDiff, reduceCtorEq, Nat.reduceMod, Int.reduceEq, Int.reduceLT, Int.reduceLE, Int.reduceToNat, dite_true, f1]
  have htl := strs_tail hnc hcm hsrc
  have hnum := numbers r (fun w hw => by have := hmem w (List.mem_cons_of_mem _ hw); omega) (by simp at hlen; omega) F1 _ htl
  refine CallV.pure hnum ?_
  rintro u F2 hF2 hu
  obtain ⟨a, rfl, hw0⟩ := head_cell hsrc
  have hw2 := hF2.cell hw0
  have n1 : ((0 : Int) < (r.length : Int) + 1) = True := eq_true (by omega)
  have n2 : ((0 : Nat) < r.length + 1) = True := eq_true (by omega)
  cases hq : numsP r with
  | none =>
    rw [hq] at hu
    cases (show u = .tuple #[.slice none 0 0, .bool false] from hu)
    simp only [push_cast, ↓reduceIte, Nat.reduceEqDiff, Nat.reduceAdd, Nat.reduceMul, Nat.reduceSub, Nat.reduceLT, Nat.reduceLeDiff, reduceCtorEq, Nat.reduceMod, Int.reduceEq, Int.reduceLT, Int.reduceLE, Int.reduceToNat, dite_true]
    refine ⟨[_, _, _], [], (by simp only [push_cast, ↓reduceIte, Nat.reduceEqDiff, Nat.reduceAdd, Nat.reduceMul, Nat.reduceSub, Nat.reduceLT, Nat.reduceLeDiff, reduceCtorEq, Nat.reduceMod, Int.reduceEq, Int.reduceLT, Int.reduceLE, Int.reduceToNat, dite_true, rvals, rval1]; rfl), .sub (List.nil_sublist _), rfl, ?_⟩
    unfold heapV heapP
    rw [hwr]
    simp only [hq, ite_self]
    rfl
  | some ns =>
    rw [hq] at hu
    obtain ⟨sl, rfl, q, cq, rfl, hnq, _, hsq⟩ := hu
    by_cases h1 : w0 = heapW
    case neg =>
      have h1' : ¬ w0 = (⟨#[104, 101, 97, 112]⟩ : ByteArray) := h1
      simp only [push_cast, ↓reduceIte, Nat.reduceEqDiff, Nat.reduceAdd, Nat.reduceMul, Nat.reduceSub, Nat.reduceLT, Nat.reduceLeDiff, reduceCtorEq, Nat.reduceMod, Int.reduceEq, Int.reduceLT, Int.reduceLE, Int.reduceToNat, dite_true, n1, n2, Nat.zero_mul, add_zero', hw2, h1']
      refine ⟨[_, _, _], [], (by simp only [push_cast, ↓reduceIte, Nat.reduceEqDiff, Nat.reduceAdd, Nat.reduceMul, Nat.reduceSub, Nat.reduceLT, Nat.reduceLeDiff, reduceCtorEq, Nat.reduceMod, Int.reduceEq, Int.reduceLT, Int.reduceLE, Int.reduceToNat, dite_true, rvals, rval1]; rfl), .sub (List.nil_sublist _), rfl, ?_⟩
      unfold heapV heapP
      rw [hwr]
      simp only [if_neg h1]
      rfl
    have h1' : w0 = (⟨#[104, 101, 97, 112]⟩ : ByteArray) := h1
    by_cases h6 : ns.length = 6
    case neg =>
      simp only [push_cast, ↓reduceIte, Nat.reduceEqDiff, Nat.reduceAdd, Nat.reduceMul, Nat.reduceSub, Nat.reduceLT, Nat.reduceLeDiff, reduceCtorEq, Nat.reduceMod, Int.reduceEq, Int.reduceLT, Int.reduceLE, Int.reduceToNat, dite_true, n1, n2, Nat.zero_mul, add_zero', hw2, eq_true h1', eq_false (show ¬ (ns.length : Int) = 6 by omega)]
      refine ⟨[_, _, _], [], (by simp only [push_cast, ↓reduceIte, Nat.reduceEqDiff, Nat.reduceAdd, Nat.reduceMul, Nat.reduceSub, Nat.reduceLT, Nat.reduceLeDiff, reduceCtorEq, Nat.reduceMod, Int.reduceEq, Int.reduceLT, Int.reduceLE, Int.reduceToNat, dite_true, rvals, rval1]; rfl), .sub (List.nil_sublist _), rfl, ?_⟩
      unfold heapV heapP
      rw [hwr]
      simp only [if_pos h1, hq]
      match ns, h6 with
      | [], _ => rfl
      | [_], _ => rfl
      | [_, _], _ => rfl
      | [_, _, _], _ => rfl
      | [_, _, _, _], _ => rfl
      | [_, _, _, _, _], _ => rfl
      | [_, _, _, _, _, _], h => exact absurd rfl h
      | _ :: _ :: _ :: _ :: _ :: _ :: _ :: _, _ => rfl
    obtain ⟨x0, x1, x2, x3, x4, x5, rfl⟩ : ∃ x0 x1 x2 x3 x4 x5, ns = [x0, x1, x2, x3, x4, x5] := by
      match ns, h6 with
      | [x0, x1, x2, x3, x4, x5], _ => exact ⟨_, _, _, _, _, _, rfl⟩
    obtain ⟨y, rfl, hcl⟩ := hsq.2 (by simp)
    have hcl' : F2.cells y 6 = some [.int .i64 x0, .int .i64 x1, .int .i64 x2, .int .i64 x3, .int .i64 x4, .int .i64 x5] := by simpa using hcl
    have g0 := cell_at hcl' (o := 0) rfl
    have g1 := cell_at hcl' (o := 1) rfl
    have g2 := cell_at hcl' (o := 2) rfl
    have g3 := cell_at hcl' (o := 3) rfl
    have g4 := cell_at hcl' (o := 4) rfl
    have g5 := cell_at hcl' (o := 5) rfl
    have n6 : ((0 : Int) + 1 + 1 + 1 + 1 + 1 + 1 = 6) = True := eq_true (by decide)
    simp only [push_cast, ↓reduceIte, Nat.reduceEqDiff, Nat.reduceAdd, Nat.reduceMul, Nat.reduceSub, Nat.reduceLT, Nat.reduceLeDiff, reduceCtorEq, Nat.reduceMod, Int.reduceEq, Int.reduceLT, Int.reduceLE, Int.reduceToNat, dite_true, n1, n2, Nat.zero_mul, add_zero', hw2, eq_true h1', n6]
    refine VC.draw (.q 0 (.q 1 (.q 2 (.q 3 (.q 4 (.q 5 (.q 6 (.q 7 (.q 8 (.q 9 (.q 10 (.q 11 (.q 12 (.q 13 (.q 14 (.q 16 (.q 17 (.q 18 (.e 15 (.es 19 [16, 17, 18] (.q 20 (.q 21 (.done))))))))))))))))))))))) mixed (by rfl) ?_
    rw [add_zero'] at g0
    have m0 : ((0 : Int) < 0 + 1 + 1 + 1 + 1 + 1 + 1) = True := eq_true (by decide)
    have m1 : ((1 : Int) < 0 + 1 + 1 + 1 + 1 + 1 + 1) = True := eq_true (by decide)
    have m2 : ((2 : Int) < 0 + 1 + 1 + 1 + 1 + 1 + 1) = True := eq_true (by decide)
    have m3 : ((3 : Int) < 0 + 1 + 1 + 1 + 1 + 1 + 1) = True := eq_true (by decide)
    have m4 : ((4 : Int) < 0 + 1 + 1 + 1 + 1 + 1 + 1) = True := eq_true (by decide)
    have m5 : ((5 : Int) < 0 + 1 + 1 + 1 + 1 + 1 + 1) = True := eq_true (by decide)
    simp only [push_cast, ↓reduceIte, Nat.reduceEqDiff, Nat.reduceAdd, Nat.reduceMul, Nat.reduceSub, Nat.reduceLT, Nat.reduceLeDiff, reduceCtorEq, Nat.reduceMod, Int.reduceEq, Int.reduceLT, Int.reduceLE, Int.reduceToNat, dite_true, m0, m1, m2, m3, m4, m5, g0, g1, g2, g3, g4, g5, Nat.zero_mul, Nat.mul_one, add_zero']
    refine VC.go 100 ?_
    simp only [push_cast, ↓reduceIte, Nat.reduceEqDiff, Nat.reduceAdd, Nat.reduceMul, Nat.reduceSub, Nat.reduceLT, Nat.reduceLeDiff, reduceCtorEq, Nat.reduceMod, Int.reduceEq, Int.reduceLT, Int.reduceLE, Int.reduceToNat, dite_true]
    refine ⟨[_, _, _], [], (by simp only [push_cast, ↓reduceIte, Nat.reduceEqDiff, Nat.reduceAdd, Nat.reduceMul, Nat.reduceSub, Nat.reduceLT, Nat.reduceLeDiff, reduceCtorEq, Nat.reduceMod, Int.reduceEq, Int.reduceLT, Int.reduceLE, Int.reduceToNat, dite_true, rvals, rval1]; rfl), .sub (List.nil_sublist _), rfl, ?_⟩
    unfold heapV heapP
    rw [hwr]
    simp only [if_pos h1, hq]
    rfl
end Go.Proofs.YtmiekonofocboaaGreatDoor.Q

/- A script's line, as data (out of gen/lk.py). -/
namespace Go.Proofs.YtmiekonofocboaaGreatDoor.Q
open Go Go.Eng Go.Lib Go.Proofs Go.Proofs.YtmiekonofocboaaGreatDoor.T Go.Proofs.YtmiekonofocboaaGreatDoor.K Go.Proofs.YtmiekonofocboaaGreatDoor.X
set_option linter.unusedSimpArgs false
set_option linter.unusedVariables false
set_option linter.unusedSectionVars false
set_option maxRecDepth 100000
set_option maxHeartbeats 4000000
abbrev makeW : ByteArray := ⟨#[109, 97, 107, 101]⟩
abbrev showW : ByteArray := ⟨#[115, 104, 111, 119]⟩
abbrev atW : ByteArray := ⟨#[97, 116]⟩
abbrev dropW : ByteArray := ⟨#[100, 114, 111, 112]⟩
abbrev collectW : ByteArray := ⟨#[99, 111, 108, 108, 101, 99, 116]⟩
abbrev outW : ByteArray := ⟨#[111, 117, 116]⟩
def showN : List Int → Option LineD
  | [x0, x1, x2] => some ⟨2, x0, ⟨#[]⟩, [], x1, x2, 0, 0⟩
  | _ => none
def atN : List Int → Option LineD
  | [x0, x1] => some ⟨3, 0, ⟨#[]⟩, [], 0, 0, x0, x1⟩
  | _ => none
def dropN : List Int → Option LineD
  | [x0] => some ⟨4, x0, ⟨#[]⟩, [], 0, 0, 0, 0⟩
  | _ => none
def collectN : List Int → Option LineD
  | [x0] => some ⟨5, x0, ⟨#[]⟩, [], 0, 0, 0, 0⟩
  | _ => none
def outN : List Int → Option LineD
  | [] => some ⟨6, 0, ⟨#[]⟩, [], 0, 0, 0, 0⟩
  | _ => none
/-- A line that is no heap's and no program's, of words and numbers. -/
def lineN (w0 : ByteArray) (n : List Int) : Option LineD :=
  if w0 = showW then showN n
  else if w0 = atW then atN n
  else if w0 = dropW then dropN n
  else if w0 = collectW then collectN n
  else if w0 = outW then outN n
  else none
open Classical in
noncomputable def makeN : List ByteArray → Option LineD
  | [] => none
  | nm :: r2 => if WordP nm 1 then (numsP r2).map fun ns => ⟨1, 0, nm, ns, 0, 0, 0, 0⟩ else none
noncomputable def lineOf (s : ByteArray) : Option LineD :=
  match splitP s 32 with
  | [] => none
  | w0 :: r => if w0 = makeW then makeN r else (numsP r).bind (lineN w0)
def LineV (F : PH) (v : Value) : Option LineD → Prop
  | some l => ∃ cs, v = .tuple #[.agg cs.toArray, .bool true] ∧ RLine F l cs
  | none => v = .tuple #[.agg (lineC ⟨0, 0, ⟨#[]⟩, [], 0, 0, 0, 0⟩ (.slice none 0 0)).toArray, .bool false]
theorem nil_ints (F : PH) : Ints F (.slice none 0 0) [] := ⟨none, 0, rfl, Nat.le_refl _, Nat.zero_le _, rfl, fun h => absurd h (by simp)⟩
theorem line_make {s w0 : ByteArray} {r : List ByteArray} (h : splitP s 32 = w0 :: r) (h0 : w0 = makeW) : lineOf s = makeN r := by
  unfold lineOf
  rw [h]
  exact if_pos h0
theorem line_not {s w0 : ByteArray} {r : List ByteArray} (h : splitP s 32 = w0 :: r) (h0 : ¬ w0 = makeW) : lineOf s = (numsP r).bind (lineN w0) := by
  unfold lineOf
  rw [h]
  exact if_neg h0
end Go.Proofs.YtmiekonofocboaaGreatDoor.Q

/- A script's line: what the program reads. (Written by gen/lm.py.) -/
namespace Go.Proofs.YtmiekonofocboaaGreatDoor.Q
open Go Go.Eng Go.Lib Go.Proofs Go.Proofs.YtmiekonofocboaaGreatDoor.T Go.Proofs.YtmiekonofocboaaGreatDoor.K Go.Proofs.YtmiekonofocboaaGreatDoor.X
set_option linter.unusedSimpArgs false
set_option linter.unusedVariables false
set_option linter.unusedSectionVars false
set_option maxRecDepth 100000
set_option maxHeartbeats 4000000
theorem line_at (i : Nat) (F : PH) (pb q : Addr) (m c : Nat) (n : Int) (h1 : F.cell pb = some (.slice (some q) m c)) (h2 : F.cell (q.add i) = some (.int .i64 n)) (hi : i < m) (hm : m ≤ 100000000) : PFn Tryz.prog 31 [.int .i64 i, .pointer (some pb)] F (fun v _ => v = .int .i64 n) := by
  refine Fn.intro (n := 8) (ts := [3]) Tryz.func31 rfl rfl rfl rfl (by simp) fun B hB => VC.go 100 ?_
  simp only [push_cast, ↓reduceIte, Nat.reduceEqDiff, Nat.reduceAdd, Nat.reduceMul, Nat.reduceSub, Nat.reduceLT, Nat.reduceLeDiff, reduceCtorEq, Nat.reduceMod, Int.reduceEq, Int.reduceLT, Int.reduceLE, Int.reduceToNat, dite_true, h1, h2, eq_true hi, eq_true (show (i : Int) < (m : Int) by omega), Nat.mul_one]
  exact RetOk.p rfl rfl
/-- What the rest of a line says. -/
noncomputable def restP (w0 name : ByteArray) (rest : List ByteArray) : Option LineD :=
  if w0 = makeW then (numsP rest).map fun ns => ⟨1, 0, name, ns, 0, 0, 0, 0⟩ else (numsP rest).bind (lineN w0)
theorem numsP_len : ∀ {l : List ByteArray} {ns : List Int}, numsP l = some ns → ns.length = l.length
  | [], ns, h => by cases h; rfl
  | w :: l, ns, h => by
    simp only [numsP] at h
    split at h
    · rename_i n r h1 h2
      cases h
      have := numsP_len h2
      simp [this]
    · cases h
theorem line (s : ByteArray) (hs : s.size ≤ 60000000) (F : PH) : PFn Tryz.prog 17 [.string s] F (fun v F' => LineV F' v (lineOf s)) := by
  refine Fn.intro (n := 122) (ts := [.cell 2 51, 3]) Tryz.func17 rfl rfl rfl rfl (by simp) fun B hB => VC.go 9 ?_
  simp only [push_cast, ↓reduceIte, Nat.reduceEqDiff, Nat.reduceAdd, Nat.reduceMul, Nat.reduceSub, Nat.reduceLT, Nat.reduceLeDiff, reduceCtorEq, Nat.reduceMod, Int.reduceEq, Int.reduceLT, Int.reduceLE, Int.reduceToNat, dite_true]
  intro b2
  obtain ⟨w0, r, hwr⟩ := split_ne s 32
  have hsp := split s 32 (by omega) F
  have hmem : ∀ w ∈ splitP s 32, w.size ≤ s.size := fun w h => split_mem h
  have hlen := splitP_len s 32
  rw [hwr] at hsp hmem hlen
  have hmw : ∀ w ∈ w0 :: r, w.size ≤ 100000000 := fun w hw => by have := hmem w hw; omega
  have hll : (w0 :: r).length ≤ 100000000 := by omega
  refine CallV.pure hsp ?_
  rintro _ F1 hF1 ⟨p, c, rfl, hnc, hcm, hsrc⟩
  have htl := strs_tail hnc hcm hsrc
  obtain ⟨a, rfl, hw1⟩ := head_cell hsrc
  have f1 := eq_true (show (1 : Int) ≤ (r.length : Int) + 1 by omega)
  have n1 : ((0 : Int) < (r.length : Int) + 1) = True := eq_true (by omega)
  have n2 : ((0 : Nat) < r.length + 1) = True := eq_true (by omega)
  simp only [push_cast, ↓reduceIte, Nat.reduceEqDiff, Nat.reduceAdd, Nat.reduceMul, Nat.reduceSub, Nat.reduceLT, Nat.reduceLeDiff, reduceCtorEq, Nat.reduceMod, Int.reduceEq, Int.reduceLT, Int.reduceLE, Int.reduceToNat, dite_true, f1]
  obtain ⟨vt, hvt⟩ : ∃ vt, vt = (Value.slice (if c = 1 then some a else Option.map (fun x => x.add (1 * 1)) (some a)) (r.length + 1 - 1) (c - 1)) := ⟨_, rfl⟩
  rw [← hvt] at htl
  obtain ⟨pt, ct, hvt2, _, hctm, hst⟩ := htl
  rw [show (Value.slice (if c = 1 then some a else Option.map (fun x => x.add 1) (some a)) (r.length + 1 - 1) (c - 1)) = .slice pt r.length ct from by rw [← hvt2, hvt]]
  refine VC.cutG (ι := ByteArray × List ByteArray × Value × PH) (fun i => [(6, .v i.2.2.1), (5, .v (.string i.1)), (4, .v (.slice (some a) (r.length + 1) c)), (2, .o 0 b2 0)]) (fun i => i.2.2.2) (fun _ => []) (fun i => F1.le i.2.2.2 ∧ Strs i.2.2.2 i.2.2.1 i.2.1 ∧ lineOf s = restP w0 i.1 i.2.1 ∧ i.2.1.length ≤ 100000000 ∧ ∀ w ∈ i.2.1, w.size ≤ 100000000) ?_ ?_
  · intro G hG
    refine VC.go 100 ?_
    by_cases h0 : w0 = (⟨#[109, 97, 107, 101]⟩ : ByteArray)
    · have hlo := line_make hwr h0
      simp only [push_cast, ↓reduceIte, Nat.reduceEqDiff, Nat.reduceAdd, Nat.reduceMul, Nat.reduceSub, Nat.reduceLT, Nat.reduceLeDiff, reduceCtorEq, Nat.reduceMod, Int.reduceEq, Int.reduceLT, Int.reduceLE, Int.reduceToNat, dite_true, n1, n2, Nat.zero_mul, add_zero', hw1, eq_true h0]
      cases r with
      | nil =>
        have hlo : lineOf s = none := hlo
        rw [hlo]
        simp only [push_cast, ↓reduceIte, Nat.reduceEqDiff, Nat.reduceAdd, Nat.reduceMul, Nat.reduceSub, Nat.reduceLT, Nat.reduceLeDiff, reduceCtorEq, Nat.reduceMod, Int.reduceEq, Int.reduceLT, Int.reduceLE, Int.reduceToNat, dite_true, List.length_nil]
        refine ⟨[_, _], [], (by simp only [push_cast, ↓reduceIte, Nat.reduceEqDiff, Nat.reduceAdd, Nat.reduceMul, Nat.reduceSub, Nat.reduceLT, Nat.reduceLeDiff, reduceCtorEq, Nat.reduceMod, Int.reduceEq, Int.reduceLT, Int.reduceLE, Int.reduceToNat, dite_true, rvals, rval1]; rfl), .sub (List.nil_sublist _), rfl, ?_⟩
        rfl
      | cons nm r2 =>
        obtain ⟨at', rfl, hnm⟩ := head_cell hst
        have g1 : ((r2.length : Int) + 1 = 0) = False := eq_false (by omega)
        have g2 : ((0 : Int) < (r2.length : Int) + 1) = True := eq_true (by omega)
        have g3 : ((0 : Nat) < r2.length + 1) = True := eq_true (by omega)
        have g4 := eq_true (show (1 : Int) ≤ (r2.length : Int) + 1 by omega)
        have hmk : lineOf s = if WordP nm 1 then (numsP r2).map (fun ns => (⟨1, 0, nm, ns, 0, 0, 0, 0⟩ : LineD)) else none := hlo
        simp only [push_cast, ↓reduceIte, Nat.reduceEqDiff, Nat.reduceAdd, Nat.reduceMul, Nat.reduceSub, Nat.reduceLT, Nat.reduceLeDiff, reduceCtorEq, Nat.reduceMod, Int.reduceEq, Int.reduceLT, Int.reduceLE, Int.reduceToNat, dite_true, g1, g2, g3, Nat.zero_mul, add_zero', hnm]
        have hnw : nm.size ≤ maxLen := Nat.le_trans (hmw nm (by simp)) (by decide)
        refine CallV.pure (p_word nm 1 hnw F1) ?_
        rintro _ F2 hF2 rfl
        by_cases hwd : WordP nm 1
        · rw [decide_eq_true hwd]
          rw [if_pos hwd] at hmk
          have hnm2 := hF2.cell hnm
          simp only [push_cast, ↓reduceIte, Nat.reduceEqDiff, Nat.reduceAdd, Nat.reduceMul, Nat.reduceSub, Nat.reduceLT, Nat.reduceLeDiff, reduceCtorEq, Nat.reduceMod, Int.reduceEq, Int.reduceLT, Int.reduceLE, Int.reduceToNat, dite_true, g1, g2, g3]
          refine VC.draw (.q 0 (.q 1 (.q 2 (.q 3 (.q 4 (.q 5 (.e 6 (.done)))))))) mixed (by rfl) ?_
          simp only [push_cast, ↓reduceIte, Nat.reduceEqDiff, Nat.reduceAdd, Nat.reduceMul, Nat.reduceSub, Nat.reduceLT, Nat.reduceLeDiff, reduceCtorEq, Nat.reduceMod, Int.reduceEq, Int.reduceLT, Int.reduceLE, Int.reduceToNat, dite_true, g1, g2, g3, g4, Nat.zero_mul, add_zero', hnm2]
          refine VC.go 100 ?_
          simp only [push_cast, ↓reduceIte, Nat.reduceEqDiff, Nat.reduceAdd, Nat.reduceMul, Nat.reduceSub, Nat.reduceLT, Nat.reduceLeDiff, reduceCtorEq, Nat.reduceMod, Int.reduceEq, Int.reduceLT, Int.reduceLE, Int.reduceToNat, dite_true]
          have htl2 := strs_tail (w0 := nm) (r := r2) (by simpa using ‹_ ≤ ct›) hctm (hst.mono hF2)
          exact hG (nm, r2, _, F2) _ ⟨hF2, htl2, by rw [hmk]; unfold restP; rw [if_pos h0], by simp at hll ⊢; omega, fun w hw => hmw w (by simp [hw])⟩ (by simp [subk, Eng.look]) (List.Sublist.refl _) rfl (List.Sublist.refl _)
        · rw [decide_eq_false hwd]
          rw [if_neg hwd] at hmk
          rw [hmk]
          simp only [push_cast, ↓reduceIte, Nat.reduceEqDiff, Nat.reduceAdd, Nat.reduceMul, Nat.reduceSub, Nat.reduceLT, Nat.reduceLeDiff, reduceCtorEq, Nat.reduceMod, Int.reduceEq, Int.reduceLT, Int.reduceLE, Int.reduceToNat, dite_true]
          refine ⟨[_, _], [], (by simp only [push_cast, ↓reduceIte, Nat.reduceEqDiff, Nat.reduceAdd, Nat.reduceMul, Nat.reduceSub, Nat.reduceLT, Nat.reduceLeDiff, reduceCtorEq, Nat.reduceMod, Int.reduceEq, Int.reduceLT, Int.reduceLE, Int.reduceToNat, dite_true, rvals, rval1]; rfl), .sub (List.nil_sublist _), rfl, ?_⟩
          rfl
    · have hlo := line_not hwr h0
      simp only [push_cast, ↓reduceIte, Nat.reduceEqDiff, Nat.reduceAdd, Nat.reduceMul, Nat.reduceSub, Nat.reduceLT, Nat.reduceLeDiff, reduceCtorEq, Nat.reduceMod, Int.reduceEq, Int.reduceLT, Int.reduceLE, Int.reduceToNat, dite_true, n1, n2, Nat.zero_mul, add_zero', hw1, h0]
      exact hG (⟨#[]⟩, r, .slice pt r.length ct, F1) _ ⟨PH.le_refl _, ⟨pt, ct, rfl, ‹_ ≤ ct›, hctm, hst⟩, by rw [hlo]; unfold restP; rw [if_neg h0], by simp at hll ⊢; omega, fun w hw => hmw w (by simp [hw])⟩ (by simp [subk, Eng.look]) (List.Sublist.refl _) rfl (List.Sublist.refl _)
  rintro ⟨name, rest, vr, F2⟩ ⟨hF2, hstr, hlo, hrl, hrw⟩
  dsimp only at hF2 hstr hlo hrl hrw ⊢
  refine VC.go 2 ?_
  simp only [push_cast, ↓reduceIte, Nat.reduceEqDiff, Nat.reduceAdd, Nat.reduceMul, Nat.reduceSub, Nat.reduceLT, Nat.reduceLeDiff, reduceCtorEq, Nat.reduceMod, Int.reduceEq, Int.reduceLT, Int.reduceLE, Int.reduceToNat, dite_true]
  have hnum := numbers rest hrw hrl F2 _ hstr
  refine CallV.pure hnum ?_
  rintro u F3 hF3 hu
  unfold restP at hlo
  cases hq : numsP rest with
  | none =>
    rw [hq] at hu hlo
    have hlo' : lineOf s = none := by rw [hlo]; exact ite_self _
    cases (show u = .tuple #[.slice none 0 0, .bool false] from hu)
    simp only [push_cast, ↓reduceIte, Nat.reduceEqDiff, Nat.reduceAdd, Nat.reduceMul, Nat.reduceSub, Nat.reduceLT, Nat.reduceLeDiff, reduceCtorEq, Nat.reduceMod, Int.reduceEq, Int.reduceLT, Int.reduceLE, Int.reduceToNat, dite_true]
    intro b7
    refine VC.go 100 ?_
    rw [hlo']
    simp only [push_cast, ↓reduceIte, Nat.reduceEqDiff, Nat.reduceAdd, Nat.reduceMul, Nat.reduceSub, Nat.reduceLT, Nat.reduceLeDiff, reduceCtorEq, Nat.reduceMod, Int.reduceEq, Int.reduceLT, Int.reduceLE, Int.reduceToNat, dite_true]
    refine ⟨[_, _], [], (by simp only [push_cast, ↓reduceIte, Nat.reduceEqDiff, Nat.reduceAdd, Nat.reduceMul, Nat.reduceSub, Nat.reduceLT, Nat.reduceLeDiff, reduceCtorEq, Nat.reduceMod, Int.reduceEq, Int.reduceLT, Int.reduceLE, Int.reduceToNat, dite_true, rvals, rval1]; rfl), .sub (List.nil_sublist _), rfl, ?_⟩
    rfl
  | some ns =>
    rw [hq] at hu hlo
    obtain ⟨sl, rfl, q, cq, rfl, hnq, hqm, hsq⟩ := hu
    simp only [push_cast, ↓reduceIte, Nat.reduceEqDiff, Nat.reduceAdd, Nat.reduceMul, Nat.reduceSub, Nat.reduceLT, Nat.reduceLeDiff, reduceCtorEq, Nat.reduceMod, Int.reduceEq, Int.reduceLT, Int.reduceLE, Int.reduceToNat, dite_true]
    intro b7
    refine VC.go 6 ?_
    simp only [push_cast, ↓reduceIte, Nat.reduceEqDiff, Nat.reduceAdd, Nat.reduceMul, Nat.reduceSub, Nat.reduceLT, Nat.reduceLeDiff, reduceCtorEq, Nat.reduceMod, Int.reduceEq, Int.reduceLT, Int.reduceLE, Int.reduceToNat, dite_true]
    refine VC.freeze (List.Perm.swap _ _ _) fun F4 hF4 hb7 => ?_
    dsimp only at hF4 hb7 ⊢
    refine VC.reL [(7, .v (.pointer (some ⟨b7, 0, none⟩))), (5, .v (.string name)), (4, .v (.slice (some a) (r.length + 1) c)), (2, .o 0 b2 0)] (by simp [subv, Eng.look, AV.val]) ?_
    have hw2 : F4.cell a = some (.string w0) := hF4.cell (hF3.cell (hF2.cell hw1))
    have hc7 : F4.cell ⟨b7, 0, none⟩ = some (.slice q ns.length cq) := by simp [PH.cell, hb7]
    have hsq4 := hsq.mono hF4
    have hnl : ns.length ≤ 100000000 := by have := numsP_len hq; omega
    refine VC.go 100 ?_
    by_cases h0 : w0 = (⟨#[109, 97, 107, 101]⟩ : ByteArray)
    · have hlo : lineOf s = some ⟨1, 0, name, ns, 0, 0, 0, 0⟩ := by rw [hlo, if_pos h0]; rfl
      rw [hlo]
      simp only [push_cast, ↓reduceIte, Nat.reduceEqDiff, Nat.reduceAdd, Nat.reduceMul, Nat.reduceSub, Nat.reduceLT, Nat.reduceLeDiff, reduceCtorEq, Nat.reduceMod, Int.reduceEq, Int.reduceLT, Int.reduceLE, Int.reduceToNat, dite_true, n1, n2, Nat.zero_mul, add_zero', hw2, eq_true h0, hc7]
      refine ⟨[_, _], [], (by simp only [push_cast, ↓reduceIte, Nat.reduceEqDiff, Nat.reduceAdd, Nat.reduceMul, Nat.reduceSub, Nat.reduceLT, Nat.reduceLeDiff, reduceCtorEq, Nat.reduceMod, Int.reduceEq, Int.reduceLT, Int.reduceLE, Int.reduceToNat, dite_true, rvals, rval1]; rfl), .sub (List.nil_sublist _), rfl, ?_⟩
      exact ⟨_, rfl, _, rfl, q, cq, rfl, hnq, hqm, hsq4⟩
    have hlo : lineOf s = lineN w0 ns := by rw [hlo, if_neg h0]; rfl
    by_cases h1 : w0 = (⟨#[115, 104, 111, 119]⟩ : ByteArray)
    · have h2 : ¬ w0 = (⟨#[97, 116]⟩ : ByteArray) := by rw [h1]; decide
      have h3 : ¬ w0 = (⟨#[100, 114, 111, 112]⟩ : ByteArray) := by rw [h1]; decide
      have h4 : ¬ w0 = (⟨#[99, 111, 108, 108, 101, 99, 116]⟩ : ByteArray) := by rw [h1]; decide
      have h5 : ¬ w0 = (⟨#[111, 117, 116]⟩ : ByteArray) := by rw [h1]; decide
      have hN : lineN w0 ns = showN ns := by
        unfold lineN; rw [if_pos h1]
      rw [hN] at hlo
      by_cases hl : ns.length = 3
      · obtain ⟨x0, x1, x2, rfl⟩ : ∃ x0 x1 x2, ns = [x0, x1, x2] := by
          match ns, hl with
          | [x0, x1, x2], _ => exact ⟨_, _, _, rfl⟩
        have hlo : lineOf s = some ⟨2, x0, ⟨#[]⟩, [], x1, x2, 0, 0⟩ := hlo
        rw [hlo]
        obtain ⟨y, rfl, hcl⟩ := hsq4.2 (by simp)
        have hcl' : F4.cells y 3 = some [.int .i64 x0, .int .i64 x1, .int .i64 x2] := by simpa using hcl
        have g0 := cell_at hcl' (o := 0) rfl
        have g1 := cell_at hcl' (o := 1) rfl
        have g2 := cell_at hcl' (o := 2) rfl
        have e3 : ((0 + 1 + 1 + 1 : Int) = 3) = True := eq_true (by decide)
        have z3 : ((3 : Nat) : Int) = 3 := rfl
        simp only [push_cast, ↓reduceIte, Nat.reduceEqDiff, Nat.reduceAdd, Nat.reduceMul, Nat.reduceSub, Nat.reduceLT, Nat.reduceLeDiff, reduceCtorEq, Nat.reduceMod, Int.reduceEq, Int.reduceLT, Int.reduceLE, Int.reduceToNat, dite_true, n1, n2, Nat.zero_mul, add_zero', hw2, hc7, h0, eq_true h1, h2, h3, h4, h5, e3]
        refine CallV.pure (line_at 0 F4 ⟨b7, 0, none⟩ y 3 cq x0 (hc7) (g0) (by decide) (by decide)) ?_
        rintro _ F5 hF5 rfl
        have K1 : F4.le F5 := hF5
        simp only [push_cast, ↓reduceIte, Nat.reduceEqDiff, Nat.reduceAdd, Nat.reduceMul, Nat.reduceSub, Nat.reduceLT, Nat.reduceLeDiff, reduceCtorEq, Nat.reduceMod, Int.reduceEq, Int.reduceLT, Int.reduceLE, Int.reduceToNat, dite_true]
        refine CallV.pure (line_at 1 F5 ⟨b7, 0, none⟩ y 3 cq x1 (K1.cell hc7) (K1.cell g1) (by decide) (by decide)) ?_
        rintro _ F6 hF6 rfl
        have K2 : F4.le F6 := PH.le_trans K1 hF6
        simp only [push_cast, ↓reduceIte, Nat.reduceEqDiff, Nat.reduceAdd, Nat.reduceMul, Nat.reduceSub, Nat.reduceLT, Nat.reduceLeDiff, reduceCtorEq, Nat.reduceMod, Int.reduceEq, Int.reduceLT, Int.reduceLE, Int.reduceToNat, dite_true]
        refine CallV.pure (line_at 2 F6 ⟨b7, 0, none⟩ y 3 cq x2 (K2.cell hc7) (K2.cell g2) (by decide) (by decide)) ?_
        rintro _ F7 hF7 rfl
        have K3 : F4.le F7 := PH.le_trans K2 hF7
        simp only [push_cast, ↓reduceIte, Nat.reduceEqDiff, Nat.reduceAdd, Nat.reduceMul, Nat.reduceSub, Nat.reduceLT, Nat.reduceLeDiff, reduceCtorEq, Nat.reduceMod, Int.reduceEq, Int.reduceLT, Int.reduceLE, Int.reduceToNat, dite_true]
        refine ⟨[_, _], [], (by simp only [push_cast, ↓reduceIte, Nat.reduceEqDiff, Nat.reduceAdd, Nat.reduceMul, Nat.reduceSub, Nat.reduceLT, Nat.reduceLeDiff, reduceCtorEq, Nat.reduceMod, Int.reduceEq, Int.reduceLT, Int.reduceLE, Int.reduceToNat, dite_true, rvals, rval1]; rfl), .sub (List.nil_sublist _), rfl, ?_⟩
        exact ⟨_, rfl, _, rfl, nil_ints _⟩
      · have hlo' : lineOf s = none := by
          rw [hlo]
          match ns, hl with
          | [], _ => rfl
          | [_], _ => rfl
          | [_, _], _ => rfl
          | [_, _, _], h => exact absurd rfl h
          | _ :: _ :: _ :: _ :: _, _ => rfl
        rw [hlo']
        simp only [push_cast, ↓reduceIte, Nat.reduceEqDiff, Nat.reduceAdd, Nat.reduceMul, Nat.reduceSub, Nat.reduceLT, Nat.reduceLeDiff, reduceCtorEq, Nat.reduceMod, Int.reduceEq, Int.reduceLT, Int.reduceLE, Int.reduceToNat, dite_true, n1, n2, Nat.zero_mul, add_zero', hw2, hc7, h0, eq_true h1, h2, h3, h4, h5, eq_false (show ¬ (ns.length : Int) = 3 by omega)]
        refine ⟨[_, _], [], (by simp only [push_cast, ↓reduceIte, Nat.reduceEqDiff, Nat.reduceAdd, Nat.reduceMul, Nat.reduceSub, Nat.reduceLT, Nat.reduceLeDiff, reduceCtorEq, Nat.reduceMod, Int.reduceEq, Int.reduceLT, Int.reduceLE, Int.reduceToNat, dite_true, rvals, rval1]; rfl), .sub (List.nil_sublist _), rfl, ?_⟩
        rfl
    by_cases h2 : w0 = (⟨#[97, 116]⟩ : ByteArray)
    · have h1 : ¬ w0 = (⟨#[115, 104, 111, 119]⟩ : ByteArray) := by rw [h2]; decide
      have h3 : ¬ w0 = (⟨#[100, 114, 111, 112]⟩ : ByteArray) := by rw [h2]; decide
      have h4 : ¬ w0 = (⟨#[99, 111, 108, 108, 101, 99, 116]⟩ : ByteArray) := by rw [h2]; decide
      have h5 : ¬ w0 = (⟨#[111, 117, 116]⟩ : ByteArray) := by rw [h2]; decide
      have hN : lineN w0 ns = atN ns := by
        unfold lineN; rw [if_neg h1, if_pos h2]
      rw [hN] at hlo
      by_cases hl : ns.length = 2
      · obtain ⟨x0, x1, rfl⟩ : ∃ x0 x1, ns = [x0, x1] := by
          match ns, hl with
          | [x0, x1], _ => exact ⟨_, _, rfl⟩
        have hlo : lineOf s = some ⟨3, 0, ⟨#[]⟩, [], 0, 0, x0, x1⟩ := hlo
        rw [hlo]
        obtain ⟨y, rfl, hcl⟩ := hsq4.2 (by simp)
        have hcl' : F4.cells y 2 = some [.int .i64 x0, .int .i64 x1] := by simpa using hcl
        have g0 := cell_at hcl' (o := 0) rfl
        have g1 := cell_at hcl' (o := 1) rfl
        have e2 : ((0 + 1 + 1 : Int) = 2) = True := eq_true (by decide)
        have z2 : ((2 : Nat) : Int) = 2 := rfl
        simp only [push_cast, ↓reduceIte, Nat.reduceEqDiff, Nat.reduceAdd, Nat.reduceMul, Nat.reduceSub, Nat.reduceLT, Nat.reduceLeDiff, reduceCtorEq, Nat.reduceMod, Int.reduceEq, Int.reduceLT, Int.reduceLE, Int.reduceToNat, dite_true, n1, n2, Nat.zero_mul, add_zero', hw2, hc7, h0, h1, eq_true h2, h3, h4, h5, e2]
        refine CallV.pure (line_at 0 F4 ⟨b7, 0, none⟩ y 2 cq x0 (hc7) (g0) (by decide) (by decide)) ?_
        rintro _ F5 hF5 rfl
        have K1 : F4.le F5 := hF5
        simp only [push_cast, ↓reduceIte, Nat.reduceEqDiff, Nat.reduceAdd, Nat.reduceMul, Nat.reduceSub, Nat.reduceLT, Nat.reduceLeDiff, reduceCtorEq, Nat.reduceMod, Int.reduceEq, Int.reduceLT, Int.reduceLE, Int.reduceToNat, dite_true]
        refine CallV.pure (line_at 1 F5 ⟨b7, 0, none⟩ y 2 cq x1 (K1.cell hc7) (K1.cell g1) (by decide) (by decide)) ?_
        rintro _ F6 hF6 rfl
        have K2 : F4.le F6 := PH.le_trans K1 hF6
        simp only [push_cast, ↓reduceIte, Nat.reduceEqDiff, Nat.reduceAdd, Nat.reduceMul, Nat.reduceSub, Nat.reduceLT, Nat.reduceLeDiff, reduceCtorEq, Nat.reduceMod, Int.reduceEq, Int.reduceLT, Int.reduceLE, Int.reduceToNat, dite_true]
        refine ⟨[_, _], [], (by simp only [push_cast, ↓reduceIte, Nat.reduceEqDiff, Nat.reduceAdd, Nat.reduceMul, Nat.reduceSub, Nat.reduceLT, Nat.reduceLeDiff, reduceCtorEq, Nat.reduceMod, Int.reduceEq, Int.reduceLT, Int.reduceLE, Int.reduceToNat, dite_true, rvals, rval1]; rfl), .sub (List.nil_sublist _), rfl, ?_⟩
        exact ⟨_, rfl, _, rfl, nil_ints _⟩
      · have hlo' : lineOf s = none := by
          rw [hlo]
          match ns, hl with
          | [], _ => rfl
          | [_], _ => rfl
          | [_, _], h => exact absurd rfl h
          | _ :: _ :: _ :: _, _ => rfl
        rw [hlo']
        simp only [push_cast, ↓reduceIte, Nat.reduceEqDiff, Nat.reduceAdd, Nat.reduceMul, Nat.reduceSub, Nat.reduceLT, Nat.reduceLeDiff, reduceCtorEq, Nat.reduceMod, Int.reduceEq, Int.reduceLT, Int.reduceLE, Int.reduceToNat, dite_true, n1, n2, Nat.zero_mul, add_zero', hw2, hc7, h0, h1, eq_true h2, h3, h4, h5, eq_false (show ¬ (ns.length : Int) = 2 by omega)]
        refine ⟨[_, _], [], (by simp only [push_cast, ↓reduceIte, Nat.reduceEqDiff, Nat.reduceAdd, Nat.reduceMul, Nat.reduceSub, Nat.reduceLT, Nat.reduceLeDiff, reduceCtorEq, Nat.reduceMod, Int.reduceEq, Int.reduceLT, Int.reduceLE, Int.reduceToNat, dite_true, rvals, rval1]; rfl), .sub (List.nil_sublist _), rfl, ?_⟩
        rfl
    by_cases h3 : w0 = (⟨#[100, 114, 111, 112]⟩ : ByteArray)
    · have h1 : ¬ w0 = (⟨#[115, 104, 111, 119]⟩ : ByteArray) := by rw [h3]; decide
      have h2 : ¬ w0 = (⟨#[97, 116]⟩ : ByteArray) := by rw [h3]; decide
      have h4 : ¬ w0 = (⟨#[99, 111, 108, 108, 101, 99, 116]⟩ : ByteArray) := by rw [h3]; decide
      have h5 : ¬ w0 = (⟨#[111, 117, 116]⟩ : ByteArray) := by rw [h3]; decide
      have hN : lineN w0 ns = dropN ns := by
        unfold lineN; rw [if_neg h1, if_neg h2, if_pos h3]
      rw [hN] at hlo
      by_cases hl : ns.length = 1
      · obtain ⟨x0, rfl⟩ : ∃ x0, ns = [x0] := by
          match ns, hl with
          | [x0], _ => exact ⟨_, rfl⟩
        have hlo : lineOf s = some ⟨4, x0, ⟨#[]⟩, [], 0, 0, 0, 0⟩ := hlo
        rw [hlo]
        obtain ⟨y, rfl, hcl⟩ := hsq4.2 (by simp)
        have hcl' : F4.cells y 1 = some [.int .i64 x0] := by simpa using hcl
        have g0 := cell_at hcl' (o := 0) rfl
        have e1 : ((0 + 1 : Int) = 1) = True := eq_true (by decide)
        have z1 : ((1 : Nat) : Int) = 1 := rfl
        simp only [push_cast, ↓reduceIte, Nat.reduceEqDiff, Nat.reduceAdd, Nat.reduceMul, Nat.reduceSub, Nat.reduceLT, Nat.reduceLeDiff, reduceCtorEq, Nat.reduceMod, Int.reduceEq, Int.reduceLT, Int.reduceLE, Int.reduceToNat, dite_true, n1, n2, Nat.zero_mul, add_zero', hw2, hc7, h0, h1, h2, eq_true h3, h4, h5, e1]
        refine CallV.pure (line_at 0 F4 ⟨b7, 0, none⟩ y 1 cq x0 (hc7) (g0) (by decide) (by decide)) ?_
        rintro _ F5 hF5 rfl
        have K1 : F4.le F5 := hF5
        simp only [push_cast, ↓reduceIte, Nat.reduceEqDiff, Nat.reduceAdd, Nat.reduceMul, Nat.reduceSub, Nat.reduceLT, Nat.reduceLeDiff, reduceCtorEq, Nat.reduceMod, Int.reduceEq, Int.reduceLT, Int.reduceLE, Int.reduceToNat, dite_true]
        refine ⟨[_, _], [], (by simp only [push_cast, ↓reduceIte, Nat.reduceEqDiff, Nat.reduceAdd, Nat.reduceMul, Nat.reduceSub, Nat.reduceLT, Nat.reduceLeDiff, reduceCtorEq, Nat.reduceMod, Int.reduceEq, Int.reduceLT, Int.reduceLE, Int.reduceToNat, dite_true, rvals, rval1]; rfl), .sub (List.nil_sublist _), rfl, ?_⟩
        exact ⟨_, rfl, _, rfl, nil_ints _⟩
      · have hlo' : lineOf s = none := by
          rw [hlo]
          match ns, hl with
          | [], _ => rfl
          | [_], h => exact absurd rfl h
          | _ :: _ :: _, _ => rfl
        rw [hlo']
        simp only [push_cast, ↓reduceIte, Nat.reduceEqDiff, Nat.reduceAdd, Nat.reduceMul, Nat.reduceSub, Nat.reduceLT, Nat.reduceLeDiff, reduceCtorEq, Nat.reduceMod, Int.reduceEq, Int.reduceLT, Int.reduceLE, Int.reduceToNat, dite_true, n1, n2, Nat.zero_mul, add_zero', hw2, hc7, h0, h1, h2, eq_true h3, h4, h5, eq_false (show ¬ (ns.length : Int) = 1 by omega)]
        refine ⟨[_, _], [], (by simp only [push_cast, ↓reduceIte, Nat.reduceEqDiff, Nat.reduceAdd, Nat.reduceMul, Nat.reduceSub, Nat.reduceLT, Nat.reduceLeDiff, reduceCtorEq, Nat.reduceMod, Int.reduceEq, Int.reduceLT, Int.reduceLE, Int.reduceToNat, dite_true, rvals, rval1]; rfl), .sub (List.nil_sublist _), rfl, ?_⟩
        rfl
    by_cases h4 : w0 = (⟨#[99, 111, 108, 108, 101, 99, 116]⟩ : ByteArray)
    · have h1 : ¬ w0 = (⟨#[115, 104, 111, 119]⟩ : ByteArray) := by rw [h4]; decide
      have h2 : ¬ w0 = (⟨#[97, 116]⟩ : ByteArray) := by rw [h4]; decide
      have h3 : ¬ w0 = (⟨#[100, 114, 111, 112]⟩ : ByteArray) := by rw [h4]; decide
      have h5 : ¬ w0 = (⟨#[111, 117, 116]⟩ : ByteArray) := by rw [h4]; decide
      have hN : lineN w0 ns = collectN ns := by
        unfold lineN; rw [if_neg h1, if_neg h2, if_neg h3, if_pos h4]
      rw [hN] at hlo
      by_cases hl : ns.length = 1
      · obtain ⟨x0, rfl⟩ : ∃ x0, ns = [x0] := by
          match ns, hl with
          | [x0], _ => exact ⟨_, rfl⟩
        have hlo : lineOf s = some ⟨5, x0, ⟨#[]⟩, [], 0, 0, 0, 0⟩ := hlo
        rw [hlo]
        obtain ⟨y, rfl, hcl⟩ := hsq4.2 (by simp)
        have hcl' : F4.cells y 1 = some [.int .i64 x0] := by simpa using hcl
        have g0 := cell_at hcl' (o := 0) rfl
        have e1 : ((0 + 1 : Int) = 1) = True := eq_true (by decide)
        have z1 : ((1 : Nat) : Int) = 1 := rfl
        simp only [push_cast, ↓reduceIte, Nat.reduceEqDiff, Nat.reduceAdd, Nat.reduceMul, Nat.reduceSub, Nat.reduceLT, Nat.reduceLeDiff, reduceCtorEq, Nat.reduceMod, Int.reduceEq, Int.reduceLT, Int.reduceLE, Int.reduceToNat, dite_true, n1, n2, Nat.zero_mul, add_zero', hw2, hc7, h0, h1, h2, h3, eq_true h4, h5, e1]
        refine CallV.pure (line_at 0 F4 ⟨b7, 0, none⟩ y 1 cq x0 (hc7) (g0) (by decide) (by decide)) ?_
        rintro _ F5 hF5 rfl
        have K1 : F4.le F5 := hF5
        simp only [push_cast, ↓reduceIte, Nat.reduceEqDiff, Nat.reduceAdd, Nat.reduceMul, Nat.reduceSub, Nat.reduceLT, Nat.reduceLeDiff, reduceCtorEq, Nat.reduceMod, Int.reduceEq, Int.reduceLT, Int.reduceLE, Int.reduceToNat, dite_true]
        refine ⟨[_, _], [], (by simp only [push_cast, ↓reduceIte, Nat.reduceEqDiff, Nat.reduceAdd, Nat.reduceMul, Nat.reduceSub, Nat.reduceLT, Nat.reduceLeDiff, reduceCtorEq, Nat.reduceMod, Int.reduceEq, Int.reduceLT, Int.reduceLE, Int.reduceToNat, dite_true, rvals, rval1]; rfl), .sub (List.nil_sublist _), rfl, ?_⟩
        exact ⟨_, rfl, _, rfl, nil_ints _⟩
      · have hlo' : lineOf s = none := by
          rw [hlo]
          match ns, hl with
          | [], _ => rfl
          | [_], h => exact absurd rfl h
          | _ :: _ :: _, _ => rfl
        rw [hlo']
        simp only [push_cast, ↓reduceIte, Nat.reduceEqDiff, Nat.reduceAdd, Nat.reduceMul, Nat.reduceSub, Nat.reduceLT, Nat.reduceLeDiff, reduceCtorEq, Nat.reduceMod, Int.reduceEq, Int.reduceLT, Int.reduceLE, Int.reduceToNat, dite_true, n1, n2, Nat.zero_mul, add_zero', hw2, hc7, h0, h1, h2, h3, eq_true h4, h5, eq_false (show ¬ (ns.length : Int) = 1 by omega)]
        refine ⟨[_, _], [], (by simp only [push_cast, ↓reduceIte, Nat.reduceEqDiff, Nat.reduceAdd, Nat.reduceMul, Nat.reduceSub, Nat.reduceLT, Nat.reduceLeDiff, reduceCtorEq, Nat.reduceMod, Int.reduceEq, Int.reduceLT, Int.reduceLE, Int.reduceToNat, dite_true, rvals, rval1]; rfl), .sub (List.nil_sublist _), rfl, ?_⟩
        rfl
    by_cases h5 : w0 = (⟨#[111, 117, 116]⟩ : ByteArray)
    · have h1 : ¬ w0 = (⟨#[115, 104, 111, 119]⟩ : ByteArray) := by rw [h5]; decide
      have h2 : ¬ w0 = (⟨#[97, 116]⟩ : ByteArray) := by rw [h5]; decide
      have h3 : ¬ w0 = (⟨#[100, 114, 111, 112]⟩ : ByteArray) := by rw [h5]; decide
      have h4 : ¬ w0 = (⟨#[99, 111, 108, 108, 101, 99, 116]⟩ : ByteArray) := by rw [h5]; decide
      have hN : lineN w0 ns = outN ns := by
        unfold lineN; rw [if_neg h1, if_neg h2, if_neg h3, if_neg h4, if_pos h5]
      rw [hN] at hlo
      by_cases hl : ns.length = 0
      · obtain rfl : ns = [] := List.eq_nil_of_length_eq_zero hl
        have hlo : lineOf s = some ⟨6, 0, ⟨#[]⟩, [], 0, 0, 0, 0⟩ := hlo
        rw [hlo]
        simp only [push_cast, ↓reduceIte, Nat.reduceEqDiff, Nat.reduceAdd, Nat.reduceMul, Nat.reduceSub, Nat.reduceLT, Nat.reduceLeDiff, reduceCtorEq, Nat.reduceMod, Int.reduceEq, Int.reduceLT, Int.reduceLE, Int.reduceToNat, dite_true, n1, n2, Nat.zero_mul, add_zero', hw2, hc7, h0, h1, h2, h3, h4, eq_true h5, List.length_nil]
        refine ⟨[_, _], [], (by simp only [push_cast, ↓reduceIte, Nat.reduceEqDiff, Nat.reduceAdd, Nat.reduceMul, Nat.reduceSub, Nat.reduceLT, Nat.reduceLeDiff, reduceCtorEq, Nat.reduceMod, Int.reduceEq, Int.reduceLT, Int.reduceLE, Int.reduceToNat, dite_true, rvals, rval1]; rfl), .sub (List.nil_sublist _), rfl, ?_⟩
        exact ⟨_, rfl, _, rfl, nil_ints _⟩
      · have hlo' : lineOf s = none := by
          rw [hlo]
          match ns, hl with
          | [], h => exact absurd rfl h
          | _ :: _, _ => rfl
        rw [hlo']
        simp only [push_cast, ↓reduceIte, Nat.reduceEqDiff, Nat.reduceAdd, Nat.reduceMul, Nat.reduceSub, Nat.reduceLT, Nat.reduceLeDiff, reduceCtorEq, Nat.reduceMod, Int.reduceEq, Int.reduceLT, Int.reduceLE, Int.reduceToNat, dite_true, n1, n2, Nat.zero_mul, add_zero', hw2, hc7, h0, h1, h2, h3, h4, eq_true h5, eq_false (show ¬ (ns.length : Int) = 0 by omega)]
        refine ⟨[_, _], [], (by simp only [push_cast, ↓reduceIte, Nat.reduceEqDiff, Nat.reduceAdd, Nat.reduceMul, Nat.reduceSub, Nat.reduceLT, Nat.reduceLeDiff, reduceCtorEq, Nat.reduceMod, Int.reduceEq, Int.reduceLT, Int.reduceLE, Int.reduceToNat, dite_true, rvals, rval1]; rfl), .sub (List.nil_sublist _), rfl, ?_⟩
        rfl
    have hN : lineN w0 ns = none := by unfold lineN; rw [if_neg h1, if_neg h2, if_neg h3, if_neg h4, if_neg h5]
    rw [hN] at hlo
    rw [hlo]
    simp only [push_cast, ↓reduceIte, Nat.reduceEqDiff, Nat.reduceAdd, Nat.reduceMul, Nat.reduceSub, Nat.reduceLT, Nat.reduceLeDiff, reduceCtorEq, Nat.reduceMod, Int.reduceEq, Int.reduceLT, Int.reduceLE, Int.reduceToNat, dite_true, n1, n2, Nat.zero_mul, add_zero', hw2, hc7, h0, h1, h2, h3, h4, h5]
    refine ⟨[_, _], [], (by simp only [push_cast, ↓reduceIte, Nat.reduceEqDiff, Nat.reduceAdd, Nat.reduceMul, Nat.reduceSub, Nat.reduceLT, Nat.reduceLeDiff, reduceCtorEq, Nat.reduceMod, Int.reduceEq, Int.reduceLT, Int.reduceLE, Int.reduceToNat, dite_true, rvals, rval1]; rfl), .sub (List.nil_sublist _), rfl, ?_⟩
    rfl
end Go.Proofs.YtmiekonofocboaaGreatDoor.Q
