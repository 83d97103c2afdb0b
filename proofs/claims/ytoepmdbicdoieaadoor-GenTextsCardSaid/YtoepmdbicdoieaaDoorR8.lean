/- Tokens joined: what the definition's Join tells. -/
import Derived.Test.YtoepmdbicdoieaaDoorR6
import Derived.Test.YtoepmdbicdoieaaDoorE20
namespace Go.Proofs.YtoepmdbicdoieaaDoor.X
open Go Go.Eng Go.Lib Go.Proofs Go.Proofs.YtoepmdbicdoieaaDoor.T Go.Proofs.YtoepmdbicdoieaaDoor.K
set_option linter.unusedSimpArgs false
set_option linter.unusedVariables false
set_option maxRecDepth 100000
set_option maxHeartbeats 4000000
theorem bytesV_str (t : ByteArray) : bytesV (strCells t) = some (t.data.toList.map fun b => (b.toNat : Int)) := by
  have := bytesV_of (t.data.toList.map fun b => (b.toNat : Int))
  rw [List.map_map] at this
  exact this
theorem bstr_str' (t : ByteArray) : bstr (t.data.toList.map fun b => (b.toNat : Int)) = t := by
  have key : ∀ (l : List UInt8) (acc : ByteArray), (l.map fun b => (b.toNat : Int)).foldl (fun r n => r.push (UInt8.ofNat n.toNat)) acc = ⟨acc.data ++ l.toArray⟩ := by
    intro l
    induction l with
    | nil => intro acc; simp
    | cons a l ih =>
      intro acc
      rw [List.map_cons, List.foldl_cons, ih]
      simp [ByteArray.push]
  have := key t.data.toList ByteArray.empty
  rw [bstr, this]
  simp only [ByteArray.empty, ByteArray.emptyWithCapacity, Array.toArray_toList]
  exact congrArg ByteArray.mk Array.empty_append
theorem strs_append (s t : ByteArray) : strCells (s ++ t) = strCells s ++ strCells t := by simp [strCells]
theorem sp_cells' (s : ByteArray) : strCells s ++ [Value.int .u8 32] = strCells (s ++ ⟨#[32]⟩) := by simp [strCells]
theorem joinP_take (l : List Tok) {j : Nat} (h : j < l.length) : joinP (l.take (j + 1)) = joinP (l.take j) ++ (textP l[j]).1 ++ ⟨#[32]⟩ := by
  rw [List.take_succ_eq_append_getElem h, joinP_append]; simp only [joinP, bapp_nil, ByteArray.append_assoc]
theorem decF_size : ∀ (k u : Nat) (acc : ByteArray) (d : Nat), u < 10 ^ (d + 1) → (decF k u acc).size ≤ acc.size + d + 1
  | 0, u, acc, d, _ => by simp only [decF]; omega
  | k + 1, u, acc, d, h => by
    have e1 : (dgt u).size = 1 := rfl
    simp only [decF]
    split
    · rw [ByteArray.size_append, e1]; omega
    · rename_i hu
      cases d with
      | zero => omega
      | succ d =>
        have h2 : u / 10 < 10 ^ (d + 1) := by
          rw [Nat.pow_succ] at h
          exact Nat.div_lt_of_lt_mul (by rw [Nat.mul_comm]; exact h)
        have := decF_size k (u / 10) (dgt u ++ acc) d h2
        rw [ByteArray.size_append, e1] at this
        omega
theorem digits_size {n : Int} (hn : I64' n) : (digitsP n).size ≤ 20 := by
  have h : (decE n.natAbs ⟨#[]⟩).size ≤ 19 := by
    have := decF_size (n.natAbs + 1) n.natAbs ⟨#[]⟩ 18 (by unfold I64' at hn; omega)
    have ez : ByteArray.size { data := #[] } = 0 := rfl
    rw [ez] at this
    exact this
  have e1 : ByteArray.size { data := #[45] } = 1 := rfl
  unfold digitsP
  split
  · rw [ByteArray.size_append, e1]; omega
  · omega
theorem text_size {t : Tok} (h : TokOk t) (hx : t.tx.size ≤ 32) : (textP t).1.size ≤ 32 := by
  have := digits_size h.i64
  have ez : ByteArray.size { data := #[] } = 0 := rfl
  unfold textP
  split
  · exact hx
  split
  · exact hx
  split
  · exact hx
  split
  · dsimp only; omega
  · dsimp only; omega
def JoinR (l : List Tok) (v : Value) : Prop := ∃ t e, v = .tuple #[.string t, .int .i64 e] ∧ (e = 0 → t = joinP l ∧ t.size ≤ 16384 ∧ ∀ x ∈ l, (textP x).2 = true)
theorem join (l : List Tok) (hok : ∀ x ∈ l, TokOk x ∧ x.tx.size ≤ 32) (F : PH) (v : Value) (hl : Toks F v l) : PFn Tryd.prog 17 [v] F (fun v _ => JoinR l v) := by
  have hl' := hl
  obtain ⟨pl, cl, rfl, hl1, hl2⟩ := hl.val
  refine Fn.intro (n := 39) (ts := [2, 3]) Tryd.func17 rfl rfl rfl rfl (by simp) fun B hB => ?_
  refine VC.go 100 ?_
  simp only [push_cast, ↓reduceIte, Nat.reduceEqDiff, Nat.reduceAdd, Nat.reduceMul, Nat.reduceSub, Nat.reduceLT, Nat.reduceLeDiff, reduceCtorEq, Nat.reduceMod, Int.reduceEq, Int.reduceLT, Int.reduceLE, Int.reduceToNat, dite_true]
  intro b0
  refine VC.loopW (ι := Nat × ByteArray × Value × PH × PH) (fun i => [(5, .v (.int .i64 (i.1 : Int))), (4, .v i.2.2.1), (0, .v (.slice pl l.length cl))]) (fun _ => []) (fun i => i.2.2.2.1) (fun i => [i.2.2.2.2]) (fun i => i.1 ≤ l.length ∧ F.le i.2.2.2.1 ∧ Row i.2.2.2.2 5 1 i.2.2.1 (strCells i.2.1) ∧ i.2.1.size ≤ 16500 ∧ (i.2.1.size ≤ 16384 → i.2.1 = joinP (l.take i.1)) ∧ ∀ x ∈ l.take i.1, (textP x).2 = true) (fun i => l.length - i.1) (0, ⟨#[]⟩, .slice (some ⟨b0, 0, none⟩) 0 0, F, _) ⟨Nat.zero_le _, PH.le_refl _, .inr ⟨b0, 0, 0, #[], rfl, rfl, rfl, Nat.le_refl _, Nat.zero_le _, rfl, rfl⟩, Nat.zero_le _, fun _ => rfl, by simp⟩ (by simp [subk, Eng.look]) (List.Sublist.refl _) rfl (subR_refl _) ?_
  rintro ⟨j, s, v4, F1, r⟩ ⟨hj, hF1, hr, hs1, hs2, hx⟩ G hG
  dsimp only at hj hF1 hr hs1 hs2 hx hG ⊢
  obtain ⟨p4, n4, c4, rfl, hn4, hc1, hc2⟩ := hr.len
  obtain rfl : n4 = s.size := by rw [strCells_length] at hn4; omega
  rcases Nat.lt_or_ge j l.length with hlt | hge
  case inr =>
    obtain rfl : j = l.length := by omega
    rw [List.take_length] at hs2 hx
    refine VC.freezeR (List.Perm.refl _) fun F3 hF3 hrF => ?_
    have hsl := hr.sl hrF
    refine VC.go 100 ?_
    by_cases hbig : 16384 < s.size
    · simp only [push_cast, ↓reduceIte, Nat.reduceEqDiff, Nat.reduceAdd, Nat.reduceMul, Nat.reduceSub, Nat.reduceLT, Nat.reduceLeDiff, reduceCtorEq, Nat.reduceMod, Int.reduceEq, Int.reduceLT, Int.reduceLE, Int.reduceToNat, dite_true, eq_false (show ¬ (l.length : Int) < (l.length : Int) by omega), eq_true (show (s.size : Int) > 16384 by omega)]
      exact RetOk.p rfl ⟨_, _, rfl, fun h => absurd h (by decide)⟩
    have hfin : ∀ v, v = .string s → JoinR l (.tuple #[v, .int .i64 0]) := fun v hv => by subst hv; exact ⟨s, 0, rfl, fun _ => ⟨hs2 (by omega), by omega, hx⟩⟩
    obtain ⟨m, hm1, q, cq, eq, _, _, hsrc⟩ := hsl
    obtain rfl : m = s.size := by rw [strCells_length] at hm1; omega
    cases eq
    rcases Nat.eq_zero_or_pos s.size with h0 | hpos
    · have hse : s = ⟨#[]⟩ := ByteArray.size_eq_zero_iff.1 h0
      cases p4 with
      | none =>
        simp only [push_cast, ↓reduceIte, Nat.reduceEqDiff, Nat.reduceAdd, Nat.reduceMul, Nat.reduceSub, Nat.reduceLT, Nat.reduceLeDiff, reduceCtorEq, Nat.reduceMod, Int.reduceEq, Int.reduceLT, Int.reduceLE, Int.reduceToNat, dite_true, eq_false (show ¬ (l.length : Int) < (l.length : Int) by omega), eq_false (show ¬ (s.size : Int) > 16384 by omega), h0, PH.cells, bytesV]
        exact RetOk.p rfl (hfin _ (by rw [hse]; rfl))
      | some a =>
        simp only [push_cast, ↓reduceIte, Nat.reduceEqDiff, Nat.reduceAdd, Nat.reduceMul, Nat.reduceSub, Nat.reduceLT, Nat.reduceLeDiff, reduceCtorEq, Nat.reduceMod, Int.reduceEq, Int.reduceLT, Int.reduceLE, Int.reduceToNat, dite_true, eq_false (show ¬ (l.length : Int) < (l.length : Int) by omega), eq_false (show ¬ (s.size : Int) > 16384 by omega), h0, PH.cells, bytesV]
        exact RetOk.p rfl (hfin _ (by rw [hse]; rfl))
    · obtain ⟨a, rfl, hcl⟩ := hsrc.2 (by omega)
      rw [Nat.mul_one] at hcl
      simp only [push_cast, ↓reduceIte, Nat.reduceEqDiff, Nat.reduceAdd, Nat.reduceMul, Nat.reduceSub, Nat.reduceLT, Nat.reduceLeDiff, reduceCtorEq, Nat.reduceMod, Int.reduceEq, Int.reduceLT, Int.reduceLE, Int.reduceToNat, dite_true, eq_false (show ¬ (l.length : Int) < (l.length : Int) by omega), eq_false (show ¬ (s.size : Int) > 16384 by omega), hcl, bytesV_str, bstr_str']
      exact RetOk.p rfl (hfin _ rfl)
  obtain ⟨hto, htx⟩ := hok _ (List.getElem_mem hlt)
  obtain ⟨q, _, cs, eq, _, _, kl, kr⟩ := (hl'.mono hF1 (fun _ _ _ h => h)).elem (by decide) (i := j) (a := l[j]) (List.getElem?_eq_getElem hlt) RTok.len
  cases eq
  cases kr
  have hw1 : IntKind.i64.wrap ((j : Int) + 1) = ((j + 1 : Nat) : Int) := wadd j hlt (Nat.le_trans hl1 hl2)
  have hts := text_size hto htx
  refine VC.go 100 ?_
  simp only [push_cast, ↓reduceIte, Nat.reduceEqDiff, Nat.reduceAdd, Nat.reduceMul, Nat.reduceSub, Nat.reduceLT, Nat.reduceLeDiff, reduceCtorEq, Nat.reduceMod, Int.reduceEq, Int.reduceLT, Int.reduceLE, Int.reduceToNat, dite_true, eq_true (show (j : Int) < (l.length : Int) by omega), eq_true (show (0 : Int) ≤ (j : Int) by omega), kl]
  refine CallV.pure (text l[j] hto.i64 F1) ?_
  rintro _ F2 hF2 rfl
  have htake : ∀ x ∈ l.take (j + 1), x ∈ l.take j ∨ x = l[j] := fun x hxm => by
    rw [List.take_succ_eq_append_getElem hlt] at hxm
    rcases List.mem_append.1 hxm with g | g
    · exact .inl g
    · exact .inr (List.mem_singleton.1 g)
  cases ht2 : (textP l[j]).2 with
  | false =>
    simp only [push_cast, ↓reduceIte, Nat.reduceEqDiff, Nat.reduceAdd, Nat.reduceMul, Nat.reduceSub, Nat.reduceLT, Nat.reduceLeDiff, reduceCtorEq, Nat.reduceMod, Int.reduceEq, Int.reduceLT, Int.reduceLE, Int.reduceToNat, dite_true]
    exact RetOk.p rfl ⟨_, _, rfl, fun h => absurd h (by decide)⟩
  | true =>
  have hx' : ∀ x ∈ l.take (j + 1), (textP x).2 = true := fun x hxm => (htake x hxm).elim (hx x) fun e => by rw [e]; exact ht2
  by_cases hbig : 16384 < s.size
  · simp only [push_cast, ↓reduceIte, Nat.reduceEqDiff, Nat.reduceAdd, Nat.reduceMul, Nat.reduceSub, Nat.reduceLT, Nat.reduceLeDiff, reduceCtorEq, Nat.reduceMod, Int.reduceEq, Int.reduceLT, Int.reduceLE, Int.reduceToNat, dite_true, eq_false (show ¬ (s.size : Int) ≤ 16384 by omega), hw1]
    exact hG (j + 1, s, _, F2, r) _ ⟨by dsimp only; omega, PH.le_trans hF1 hF2, hr, hs1, fun h => absurd h (by dsimp only; omega), hx'⟩ (by dsimp only; omega) (by simp [subk, Eng.look]) (List.Sublist.refl _) rfl (subR_refl _)
  have e1 : ByteArray.size { data := #[32] } = 1 := rfl
  simp only [push_cast, ↓reduceIte, Nat.reduceEqDiff, Nat.reduceAdd, Nat.reduceMul, Nat.reduceSub, Nat.reduceLT, Nat.reduceLeDiff, reduceCtorEq, Nat.reduceMod, Int.reduceEq, Int.reduceLT, Int.reduceLE, Int.reduceToNat, dite_true, eq_true (show (s.size : Int) ≤ 16384 by omega)]
  refine Eff.appendS (tx := (textP l[j]).1) rfl rfl rfl ty106 rfl ty9 rfl ty5 rfl rfl rfl rfl rfl (List.Perm.refl _) hr (by rw [strCells_length]; omega) ?_
  intro v3 r3 hr3
  rw [← strs_append] at hr3
  obtain ⟨p3, n3, c3, rfl, hn3, _, _⟩ := hr3.len
  simp only [push_cast, ↓reduceIte, Nat.reduceEqDiff, Nat.reduceAdd, Nat.reduceMul, Nat.reduceSub, Nat.reduceLT, Nat.reduceLeDiff, reduceCtorEq, Nat.reduceMod, Int.reduceEq, Int.reduceLT, Int.reduceLE, Int.reduceToNat, dite_true]
  intro b5 F5 hF5 hb5
  refine Eff.append (xs := strCells (s ++ (textP l[j]).1)) (ys := [.int .u8 32]) rfl rfl rfl ty106 rfl ty5 rfl (by decide) rfl rfl (List.Perm.refl _) hr3 (Src.blk hb5 rfl) (by simp [Value.oneCell']) (by rw [strCells_length, ByteArray.size_append]; simp; omega) (by decide) ?_
  intro v6 r6 hr6
  rw [sp_cells'] at hr6
  obtain ⟨p6, n6, c6, rfl, _, _, _⟩ := hr6.len
  simp only [push_cast, ↓reduceIte, Nat.reduceEqDiff, Nat.reduceAdd, Nat.reduceMul, Nat.reduceSub, Nat.reduceLT, Nat.reduceLeDiff, reduceCtorEq, Nat.reduceMod, Int.reduceEq, Int.reduceLT, Int.reduceLE, Int.reduceToNat, dite_true, hw1]
  refine hG (j + 1, s ++ (textP l[j]).1 ++ ⟨#[32]⟩, _, F5, r6) _ ⟨by dsimp only; omega, PH.le_trans hF1 (PH.le_trans hF2 hF5), hr6, by dsimp only; rw [ByteArray.size_append, ByteArray.size_append, e1]; omega, fun h => by dsimp only; rw [joinP_take l hlt, hs2 (by omega)], hx'⟩ (by dsimp only; omega) (by simp [subk, Eng.look]) (List.Sublist.refl _) rfl (subR_refl _)
end Go.Proofs.YtoepmdbicdoieaaDoor.X
