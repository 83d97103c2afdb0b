/- The lexer of the definition, as a function of the text: numbers as texts. -/
import Derived.Test.YtoepmdbicdoieaaDoorB6
namespace Go.Proofs.YtoepmdbicdoieaaDoor.X
open Go Go.Eng Go.Proofs Go.Proofs.YtoepmdbicdoieaaDoor.T Go.Proofs.YtoepmdbicdoieaaDoor.K
set_option linter.unusedSimpArgs false
set_option linter.unusedVariables false
set_option maxRecDepth 100000
set_option maxHeartbeats 4000000
abbrev dgt (u : Nat) : ByteArray := ⟨#[UInt8.ofNat (48 + u % 10)]⟩
/-- The digits of a number, ahead of some text. -/
def decF : Nat → Nat → ByteArray → ByteArray
  | 0, _, acc => acc
  | k + 1, u, acc => if u / 10 = 0 then dgt u ++ acc else decF k (u / 10) (dgt u ++ acc)
def decE (u : Nat) (acc : ByteArray) : ByteArray := decF (u + 1) u acc
theorem decF_any : ∀ n m u acc, u < n → u < m → decF n u acc = decF m u acc
  | 0, _, u, _, h, _ => absurd h (Nat.not_lt_zero _)
  | _, 0, u, _, _, h => absurd h (Nat.not_lt_zero _)
  | n + 1, m + 1, u, acc, h1, h2 => by
    simp only [decF]
    split
    · rfl
    · exact decF_any n m _ _ (by omega) (by omega)
theorem decE_eq (u : Nat) (acc : ByteArray) : decE u acc = if u / 10 = 0 then dgt u ++ acc else decE (u / 10) (dgt u ++ acc) := by
  show decF (u + 1) u acc = if u / 10 = 0 then dgt u ++ acc else decF (u / 10 + 1) (u / 10) (dgt u ++ acc)
  rw [decF]
  split
  · rfl
  · exact decF_any _ _ _ _ (by omega) (by omega)
def digitsP (n : Int) : ByteArray := if n < 0 then ⟨#[45]⟩ ++ decE n.natAbs ⟨#[]⟩ else decE n.natAbs ⟨#[]⟩
theorem digits (n : Int) (hn : -9223372036854775808 ≤ n ∧ n ≤ 9223372036854775807) (F : PH) : PFn Tryd.prog 76 [.int .i64 n] F (fun v _ => v = .string (digitsP n)) := by
  refine Fn.intro (n := 29) (ts := [2]) Tryd.func76 rfl rfl rfl rfl (by simp) fun B hB => VC.go 100 ?_
  simp only [push_cast, ↓reduceIte, Nat.reduceEqDiff, Nat.reduceAdd, Nat.reduceMul, Nat.reduceSub, Nat.reduceLT, Nat.reduceLeDiff, reduceCtorEq, Nat.reduceMod, Int.reduceEq, Int.reduceLT, Int.reduceLE, Int.reduceToNat, dite_true]
  refine VC.loopF (ι := Int × ByteArray × PH) (fun i => [(4, .v (.int .i64 i.1)), (3, .v (.string i.2.1)), (0, .v (.int .i64 n))]) (fun i => i.2.2) (fun i => -9223372036854775808 ≤ i.1 ∧ i.1 ≤ 9223372036854775807 ∧ 9 * i.2.1.size + i.1.natAbs ≤ n.natAbs ∧ decE i.1.natAbs i.2.1 = decE n.natAbs ⟨#[]⟩) (fun i => i.1.natAbs) (n, ⟨#[]⟩, F) ⟨hn.1, hn.2, by simp [ByteArray.size], rfl⟩ (by simp [subk, Eng.look]) rfl ?_
  rintro ⟨m, s, F1⟩ ⟨hm1, hm2, hsz, hdec⟩ G hG
  dsimp only at hm1 hm2 hsz hdec hG ⊢
  refine VC.go 100 ?_
  have hone : ∀ (b : Nat) (F' : PH) (d : Int), F' b = some (.cells #[.int .u8 d] 5) → F'.cells ⟨b, 0, none⟩ 1 = some [.int .u8 d] := fun b F' d hb => by
    simp [PH.cells, PH.cell, hb, Addr.add]
  have ht1 : (m.tmod 10).natAbs = m.natAbs % 10 := Int.natAbs_tmod m 10
  have ht2 : (m.tdiv 10).natAbs = m.natAbs / 10 := Int.natAbs_tdiv m 10
  have hw1 : IntKind.i64.wrap (m.tdiv 10) = m.tdiv 10 := IntWalk.i64_in _ (by omega)
  have hz : ∀ d : Int, (bstr [d]).size + s.size ≤ 9223372036854775807 := fun d => by
    have : (bstr [d]).size = 1 := rfl
    omega
  rw [decE_eq] at hdec
  by_cases hneg : m.tmod 10 < 0
  · have e1 : IntKind.i64.wrap (0 - m.tmod 10) = 0 - m.tmod 10 := IntWalk.i64_in _ (by omega)
    have e2 : IntKind.i64.wrap (48 + (0 - m.tmod 10)) = 48 + (0 - m.tmod 10) := IntWalk.i64_in _ (by omega)
    have e3 : IntKind.u8.wrap (48 + (0 - m.tmod 10)) = 48 + (0 - m.tmod 10) := IntWalk.u8_in _ (by omega)
    have hdg : bstr [IntKind.u8.wrap (IntKind.i64.wrap (48 + IntKind.i64.wrap (0 - m.tmod 10)))] = dgt m.natAbs := by
      rw [e1, e2, e3]
      have : (48 + (0 - m.tmod 10)).toNat = 48 + m.natAbs % 10 := by omega
      show ByteArray.empty.push (UInt8.ofNat (48 + (0 - m.tmod 10)).toNat) = _
      rw [this]; rfl
    simp only [push_cast, ↓reduceIte, Nat.reduceEqDiff, Nat.reduceAdd, Nat.reduceMul, Nat.reduceSub, Nat.reduceLT, Nat.reduceLeDiff, reduceCtorEq, Nat.reduceMod, Int.reduceEq, Int.reduceLT, Int.reduceLE, Int.reduceToNat, dite_true, eq_true hneg]
    intro b F2 hF2 hb2
    have hcl := hone b F2 _ hb2
    simp only [push_cast, ↓reduceIte, Nat.reduceEqDiff, Nat.reduceAdd, Nat.reduceMul, Nat.reduceSub, Nat.reduceLT, Nat.reduceLeDiff, reduceCtorEq, Nat.reduceMod, Int.reduceEq, Int.reduceLT, Int.reduceLE, Int.reduceToNat, dite_true, hcl, hw1, hz]
    rw [hdg]
    have hsz1 : (dgt m.natAbs ++ s).size = s.size + 1 := by rw [ByteArray.size_append]; have : (dgt m.natAbs).size = 1 := rfl; omega
    by_cases hq : m.tdiv 10 = 0
    · rw [if_pos (by omega)] at hdec
      have hz2 : ByteArray.size { data := #[45] } + (dgt m.natAbs ++ s).size ≤ 9223372036854775807 := by
        have : ByteArray.size { data := #[45] } = 1 := rfl
        omega
      by_cases hn0 : n < 0
      · simp only [push_cast, ↓reduceIte, Nat.reduceEqDiff, Nat.reduceAdd, Nat.reduceMul, Nat.reduceSub, Nat.reduceLT, Nat.reduceLeDiff, reduceCtorEq, Nat.reduceMod, Int.reduceEq, Int.reduceLT, Int.reduceLE, Int.reduceToNat, dite_true, eq_true hq, eq_true hn0, hz2]
        exact RetOk.p rfl (by unfold digitsP; rw [if_pos hn0, ← hdec]; rfl)
      · simp only [push_cast, ↓reduceIte, Nat.reduceEqDiff, Nat.reduceAdd, Nat.reduceMul, Nat.reduceSub, Nat.reduceLT, Nat.reduceLeDiff, reduceCtorEq, Nat.reduceMod, Int.reduceEq, Int.reduceLT, Int.reduceLE, Int.reduceToNat, dite_true, eq_true hq, hn0]
        exact RetOk.p rfl (by unfold digitsP; rw [if_neg hn0, ← hdec]; rfl)
    · rw [if_neg (by omega)] at hdec
      simp only [push_cast, ↓reduceIte, Nat.reduceEqDiff, Nat.reduceAdd, Nat.reduceMul, Nat.reduceSub, Nat.reduceLT, Nat.reduceLeDiff, reduceCtorEq, Nat.reduceMod, Int.reduceEq, Int.reduceLT, Int.reduceLE, Int.reduceToNat, dite_true, hq]
      exact hG (m.tdiv 10, dgt m.natAbs ++ s, F2) _ ⟨by dsimp only; omega, by dsimp only; omega, by dsimp only; omega, by dsimp only; rw [ht2]; exact hdec⟩ (by dsimp only; omega) (by simp [subk, Eng.look]) (List.Sublist.refl _) rfl rfl
  · have e2 : IntKind.i64.wrap (48 + m.tmod 10) = 48 + m.tmod 10 := IntWalk.i64_in _ (by omega)
    have e3 : IntKind.u8.wrap (48 + m.tmod 10) = 48 + m.tmod 10 := IntWalk.u8_in _ (by omega)
    have hdg : bstr [IntKind.u8.wrap (IntKind.i64.wrap (48 + m.tmod 10))] = dgt m.natAbs := by
      rw [e2, e3]
      have : (48 + m.tmod 10).toNat = 48 + m.natAbs % 10 := by omega
      show ByteArray.empty.push (UInt8.ofNat (48 + m.tmod 10).toNat) = _
      rw [this]; rfl
    simp only [push_cast, ↓reduceIte, Nat.reduceEqDiff, Nat.reduceAdd, Nat.reduceMul, Nat.reduceSub, Nat.reduceLT, Nat.reduceLeDiff, reduceCtorEq, Nat.reduceMod, Int.reduceEq, Int.reduceLT, Int.reduceLE, Int.reduceToNat, dite_true, hneg]
    intro b F2 hF2 hb2
    have hcl := hone b F2 _ hb2
    simp only [push_cast, ↓reduceIte, Nat.reduceEqDiff, Nat.reduceAdd, Nat.reduceMul, Nat.reduceSub, Nat.reduceLT, Nat.reduceLeDiff, reduceCtorEq, Nat.reduceMod, Int.reduceEq, Int.reduceLT, Int.reduceLE, Int.reduceToNat, dite_true, hcl, hw1, hz]
    rw [hdg]
    have hsz1 : (dgt m.natAbs ++ s).size = s.size + 1 := by rw [ByteArray.size_append]; have : (dgt m.natAbs).size = 1 := rfl; omega
    by_cases hq : m.tdiv 10 = 0
    · rw [if_pos (by omega)] at hdec
      have hz2 : ByteArray.size { data := #[45] } + (dgt m.natAbs ++ s).size ≤ 9223372036854775807 := by
        have : ByteArray.size { data := #[45] } = 1 := rfl
        omega
      by_cases hn0 : n < 0
      · simp only [push_cast, ↓reduceIte, Nat.reduceEqDiff, Nat.reduceAdd, Nat.reduceMul, Nat.reduceSub, Nat.reduceLT, Nat.reduceLeDiff, reduceCtorEq, Nat.reduceMod, Int.reduceEq, Int.reduceLT, Int.reduceLE, Int.reduceToNat, dite_true, eq_true hq, eq_true hn0, hz2]
        exact RetOk.p rfl (by unfold digitsP; rw [if_pos hn0, ← hdec]; rfl)
      · simp only [push_cast, ↓reduceIte, Nat.reduceEqDiff, Nat.reduceAdd, Nat.reduceMul, Nat.reduceSub, Nat.reduceLT, Nat.reduceLeDiff, reduceCtorEq, Nat.reduceMod, Int.reduceEq, Int.reduceLT, Int.reduceLE, Int.reduceToNat, dite_true, eq_true hq, hn0]
        exact RetOk.p rfl (by unfold digitsP; rw [if_neg hn0, ← hdec]; rfl)
    · rw [if_neg (by omega)] at hdec
      simp only [push_cast, ↓reduceIte, Nat.reduceEqDiff, Nat.reduceAdd, Nat.reduceMul, Nat.reduceSub, Nat.reduceLT, Nat.reduceLeDiff, reduceCtorEq, Nat.reduceMod, Int.reduceEq, Int.reduceLT, Int.reduceLE, Int.reduceToNat, dite_true, hq]
      exact hG (m.tdiv 10, dgt m.natAbs ++ s, F2) _ ⟨by dsimp only; omega, by dsimp only; omega, by dsimp only; omega, by dsimp only; rw [ht2]; exact hdec⟩ (by dsimp only; omega) (by simp [subk, Eng.look]) (List.Sublist.refl _) rfl rfl
end Go.Proofs.YtoepmdbicdoieaaDoor.X
