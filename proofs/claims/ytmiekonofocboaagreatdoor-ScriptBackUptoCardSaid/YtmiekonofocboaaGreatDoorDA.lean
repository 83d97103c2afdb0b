/- My texts D1 D2 D4, in one. -/
import Derived.Test.YtmiekonofocboaaGreatDoorTy
import Derived.Test.YtmiekonofocboaaGreatDoorE21
import Derived.IntWalk
/- Numbers as texts: what the definition does. -/
namespace Go.Proofs.YtmiekonofocboaaGreatDoor.Q
open Go Go.Eng Go.Proofs Go.Proofs.YtmiekonofocboaaGreatDoor.T
set_option linter.unusedSimpArgs false
set_option linter.unusedVariables false
set_option linter.unusedSectionVars false
set_option maxRecDepth 100000
set_option maxHeartbeats 4000000
abbrev dgt (u : Nat) : ByteArray := ⟨#[UInt8.ofNat (48 + u % 10)]⟩
/-- The digits of a number, ahead of some text. -/
def decF : Nat → Nat → ByteArray → ByteArray
  | 0, _, acc => acc
  | k + 1, u, acc => if u / 10 = 0 then dgt u ++ acc else decF k (u / 10) (dgt u ++ acc)
def decE (u : Nat) (acc : ByteArray) : ByteArray := decF (u + 1) u acc
theorem decF_any : ∀ n m u acc, u < n → u < m → decF n u acc = decF m u acc
  | 0, _, u, _, h, _ => absurd h (Nat.not_lt_zero _)
  | _, 0, u, _, _, h => absurd h (Nat.not_lt_zero _)
  | n + 1, m + 1, u, acc, h1, h2 => by
    simp only [decF]
    split
    · rfl
    · exact decF_any n m _ _ (by omega) (by omega)
theorem decE_eq (u : Nat) (acc : ByteArray) : decE u acc = if u / 10 = 0 then dgt u ++ acc else decE (u / 10) (dgt u ++ acc) := by
  show decF (u + 1) u acc = if u / 10 = 0 then dgt u ++ acc else decF (u / 10 + 1) (u / 10) (dgt u ++ acc)
  rw [decF]
  split
  · rfl
  · exact decF_any _ _ _ _ (by omega) (by omega)
def digitsP (n : Int) : ByteArray := if n < 0 then ⟨#[45]⟩ ++ decE n.natAbs ⟨#[]⟩ else decE n.natAbs ⟨#[]⟩
theorem digits (n : Int) (hn : -9223372036854775808 ≤ n ∧ n ≤ 9223372036854775807) (F : PH) : PFn Tryz.prog 24 [.int .i64 n] F (fun v _ => v = .string (digitsP n)) := by
  refine Fn.intro (n := 29) (ts := [2]) Tryz.func24 rfl rfl rfl rfl (by simp) fun B hB => VC.go 100 ?_
  simp only [push_cast, ↓reduceIte, Nat.reduceEqDiff, Nat.reduceAdd, Nat.reduceMul, Nat.reduceSub, Nat.reduceLT, Nat.reduceLeDiff, reduceCtorEq, Nat.reduceMod, Int.reduceEq, Int.reduceLT, Int.reduceLE, Int.reduceToNat, dite_true]
  refine VC.loopF (ι := Int × ByteArray × PH) (fun i => [(4, .v (.int .i64 i.1)), (3, .v (.string i.2.1)), (0, .v (.int .i64 n))]) (fun i => i.2.2) (fun i => -9223372036854775808 ≤ i.1 ∧ i.1 ≤ 9223372036854775807 ∧ 9 * i.2.1.size + i.1.natAbs ≤ n.natAbs ∧ decE i.1.natAbs i.2.1 = decE n.natAbs ⟨#[]⟩) (fun i => i.1.natAbs) (n, ⟨#[]⟩, F) ⟨hn.1, hn.2, by simp [ByteArray.size], rfl⟩ (by simp [subk, Eng.look]) rfl ?_
  rintro ⟨m, s, F1⟩ ⟨hm1, hm2, hsz, hdec⟩ G hG
  dsimp only at hm1 hm2 hsz hdec hG ⊢
  refine VC.go 100 ?_
  have hone : ∀ (b : Nat) (F' : PH) (d : Int), F' b = some (.cells #[.int .u8 d] 5) → F'.cells ⟨b, 0, none⟩ 1 = some [.int .u8 d] := fun b F' d hb => by
    simp [PH.cells, PH.cell, hb, Addr.add]
  have ht1 : (m.tmod 10).natAbs = m.natAbs % 10 := Int.natAbs_tmod m 10
  have ht2 : (m.tdiv 10).natAbs = m.natAbs / 10 := Int.natAbs_tdiv m 10
  have hw1 : IntKind.i64.wrap (m.tdiv 10) = m.tdiv 10 := IntWalk.i64_in _ (by omega)
  have hz : ∀ d : Int, (bstr [d]).size + s.size ≤ 9223372036854775807 := fun d => by
    have : (bstr [d]).size = 1 := rfl
    omega
  rw [decE_eq] at hdec
  by_cases hneg : m.tmod 10 < 0
  · have e1 : IntKind.i64.wrap (0 - m.tmod 10) = 0 - m.tmod 10 := IntWalk.i64_in _ (by omega)
    have e2 : IntKind.i64.wrap (48 + (0 - m.tmod 10)) = 48 + (0 - m.tmod 10) := IntWalk.i64_in _ (by omega)
    have e3 : IntKind.u8.wrap (48 + (0 - m.tmod 10)) = 48 + (0 - m.tmod 10) := IntWalk.u8_in _ (by omega)
    have hdg : bstr [IntKind.u8.wrap (IntKind.i64.wrap (48 + IntKind.i64.wrap (0 - m.tmod 10)))] = dgt m.natAbs := by
      rw [e1, e2, e3]
      have : (48 + (0 - m.tmod 10)).toNat = 48 + m.natAbs % 10 := by omega
      show ByteArray.empty.push (UInt8.ofNat (48 + (0 - m.tmod 10)).toNat) = _
      rw [this]; rfl
    simp only [push_cast, ↓reduceIte, Nat.reduceEqDiff, Nat.reduceAdd, Nat.reduceMul, Nat.reduceSub, Nat.reduceLT, Nat.reduceLeDiff, reduceCtorEq, Nat.reduceMod, Int.reduceEq, Int.reduceLT, Int.reduceLE, Int.reduceToNat, dite_true, eq_true hneg]
    intro b F2 hF2 hb2
    have hcl := hone b F2 _ hb2
    simp only [push_cast, ↓reduceIte, Nat.reduceEqDiff, Nat.reduceAdd, Nat.reduceMul, Nat.reduceSub, Nat.reduceLT, Nat.reduceLeDiff, reduceCtorEq, Nat.reduceMod, Int.reduceEq, Int.reduceLT, Int.reduceLE, Int.reduceToNat, dite_true, hcl, hw1, hz]
    rw [hdg]
    have hsz1 : (dgt m.natAbs ++ s).size = s.size + 1 := by rw [ByteArray.size_append]; have : (dgt m.natAbs).size = 1 := rfl; omega
    by_cases hq : m.tdiv 10 = 0
    · rw [if_pos (by omega)] at hdec
      have hz2 : ByteArray.size { data := #[45] } + (dgt m.natAbs ++ s).size ≤ 9223372036854775807 := by
        have : ByteArray.size { data := #[45] } = 1 := rfl
        omega
      by_cases hn0 : n < 0
      · simp only [push_cast, ↓reduceIte, Nat.reduceEqDiff, Nat.reduceAdd, Nat.reduceMul, Nat.reduceSub, Nat.reduceLT, Nat.reduceLeDiff, reduceCtorEq, Nat.reduceMod, Int.reduceEq, Int.reduceLT, Int.reduceLE, Int.reduceToNat, dite_true, eq_true hq, eq_true hn0, hz2]
        exact RetOk.p rfl (by unfold digitsP; rw [if_pos hn0, ← hdec]; rfl)
      · simp only [push_cast, ↓reduceIte, Nat.reduceEqDiff, Nat.reduceAdd, Nat.reduceMul, Nat.reduceSub, Nat.reduceLT, Nat.reduceLeDiff, reduceCtorEq, Nat.reduceMod, Int.reduceEq, Int.reduceLT, Int.reduceLE, Int.reduceToNat, dite_true, eq_true hq, hn0]
        exact RetOk.p rfl (by unfold digitsP; rw [if_neg hn0, ← hdec]; rfl)
    · rw [if_neg (by omega)] at hdec
      simp only [push_cast, ↓reduceIte, Nat.reduceEqDiff, Nat.reduceAdd, Nat.reduceMul, Nat.reduceSub, Nat.reduceLT, Nat.reduceLeDiff, reduceCtorEq, Nat.reduceMod, Int.reduceEq, Int.reduceLT, Int.reduceLE, Int.reduceToNat, dite_true, hq]
      exact hG (m.tdiv 10, dgt m.natAbs ++ s, F2) _ ⟨by dsimp only; omega, by dsimp only; omega, by dsimp only; omega, by dsimp only; rw [ht2]; exact hdec⟩ (by dsimp only; omega) (by simp [subk, Eng.look]) (List.Sublist.refl _) rfl rfl
  · have e2 : IntKind.i64.wrap (48 + m.tmod 10) = 48 + m.tmod 10 := IntWalk.i64_in _ (by omega)
    have e3 : IntKind.u8.wrap (48 + m.tmod 10) = 48 + m.tmod 10 := IntWalk.u8_in _ (by omega)
    have hdg : bstr [IntKind.u8.wrap (IntKind.i64.wrap (48 + m.tmod 10))] = dgt m.natAbs := by
      rw [e2, e3]
      have : (48 + m.tmod 10).toNat = 48 + m.natAbs % 10 := by omega
      show ByteArray.empty.push (UInt8.ofNat (48 + m.tmod 10).toNat) = _
      rw [this]; rfl
    simp only [push_cast, ↓reduceIte, Nat.reduceEqDiff, Nat.reduceAdd, Nat.reduceMul, Nat.reduceSub, Nat.reduceLT, Nat.reduceLeDiff, reduceCtorEq, Nat.reduceMod, Int.reduceEq, Int.reduceLT, Int.reduceLE, Int.reduceToNat, dite_true, hneg]
    intro b F2 hF2 hb2
    have hcl := hone b F2 _ hb2
    simp only [push_cast, ↓reduceIte, Nat.reduceEqDiff, Nat.reduceAdd, Nat.reduceMul, Nat.reduceSub, Nat.reduceLT, Nat.reduceLeDiff, reduceCtorEq, Nat.reduceMod, Int.reduceEq, Int.reduceLT, Int.reduceLE, Int.reduceToNat, dite_true, hcl, hw1, hz]
    rw [hdg]
    have hsz1 : (dgt m.natAbs ++ s).size = s.size + 1 := by rw [ByteArray.size_append]; have : (dgt m.natAbs).size = 1 := rfl; omega
    by_cases hq : m.tdiv 10 = 0
    · rw [if_pos (by omega)] at hdec
      have hz2 : ByteArray.size { data := #[45] } + (dgt m.natAbs ++ s).size ≤ 9223372036854775807 := by
        have : ByteArray.size { data := #[45] } = 1 := rfl
        omega
      by_cases hn0 : n < 0
      · simp only [push_cast, ↓reduceIte, Nat.reduceEqDiff, Nat.reduceAdd, Nat.reduceMul, Nat.reduceSub, Nat.reduceLT, Nat.reduceLeDiff, reduceCtorEq, Nat.reduceMod, Int.reduceEq, Int.reduceLT, Int.reduceLE, Int.reduceToNat, dite_true, eq_true hq, eq_true hn0, hz2]
        exact RetOk.p rfl (by unfold digitsP; rw [if_pos hn0, ← hdec]; rfl)
      · simp only [push_cast, ↓reduceIte, Nat.reduceEqDiff, Nat.reduceAdd, Nat.reduceMul, Nat.reduceSub, Nat.reduceLT, Nat.reduceLeDiff, reduceCtorEq, Nat.reduceMod, Int.reduceEq, Int.reduceLT, Int.reduceLE, Int.reduceToNat, dite_true, eq_true hq, hn0]
        exact RetOk.p rfl (by unfold digitsP; rw [if_neg hn0, ← hdec]; rfl)
    · rw [if_neg (by omega)] at hdec
      simp only [push_cast, ↓reduceIte, Nat.reduceEqDiff, Nat.reduceAdd, Nat.reduceMul, Nat.reduceSub, Nat.reduceLT, Nat.reduceLeDiff, reduceCtorEq, Nat.reduceMod, Int.reduceEq, Int.reduceLT, Int.reduceLE, Int.reduceToNat, dite_true, hq]
      exact hG (m.tdiv 10, dgt m.natAbs ++ s, F2) _ ⟨by dsimp only; omega, by dsimp only; omega, by dsimp only; omega, by dsimp only; rw [ht2]; exact hdec⟩ (by dsimp only; omega) (by simp [subk, Eng.look]) (List.Sublist.refl _) rfl rfl
end Go.Proofs.YtmiekonofocboaaGreatDoor.Q

/- Numbers as texts: what the program does (lex.digits). -/
namespace Go.Proofs.YtmiekonofocboaaGreatDoor.Q
open Go Go.Eng Go.Lib Go.Proofs Go.Proofs.YtmiekonofocboaaGreatDoor.T
set_option linter.unusedSimpArgs false
set_option linter.unusedVariables false
set_option linter.unusedSectionVars false
set_option maxRecDepth 100000
set_option maxHeartbeats 4000000
theorem str_dgt (u : Nat) (s : ByteArray) : strCells (dgt u ++ s) = .int .u8 ((UInt8.ofNat (48 + u % 10)).toNat : Nat) :: strCells s := by
  simp [strCells, dgt]
theorem dgt_u8 (u : Nat) : ((UInt8.ofNat (48 + u % 10)).toNat : Int) = 48 + ((u % 10 : Nat) : Int) := by
  rw [UInt8.toNat_ofNat', Nat.mod_eq_of_lt (by omega)]
  simp
theorem dgt_size (u : Nat) (s : ByteArray) : (dgt u ++ s).size = s.size + 1 := by
  rw [ByteArray.size_append]
  have : (dgt u).size = 1 := rfl
  omega
theorem decE_le : ∀ (k u : Nat) (acc : ByteArray), u < 10 ^ (k + 1) → (decE u acc).size ≤ acc.size + (k + 1)
  | 0, u, acc, h => by
    rw [decE_eq, if_pos (by omega), dgt_size]
    omega
  | k + 1, u, acc, h => by
    rw [decE_eq]
    split
    · rw [dgt_size]; omega
    · have := decE_le k (u / 10) (dgt u ++ acc) (by rw [Nat.pow_succ] at h; omega)
      rw [dgt_size] at this
      omega
theorem decF_ge : ∀ (k u : Nat) (acc : ByteArray), acc.size ≤ (decF k u acc).size
  | 0, u, acc => Nat.le_refl _
  | k + 1, u, acc => by
    rw [decF]
    split
    · rw [dgt_size]; omega
    · have := decF_ge k (u / 10) (dgt u ++ acc)
      rw [dgt_size] at this
      omega
theorem decE_ge (u : Nat) (acc : ByteArray) : acc.size + 1 ≤ (decE u acc).size := by
  show _ ≤ (decF (u + 1) u acc).size
  rw [decF]
  split
  · rw [dgt_size]; omega
  · have := decF_ge u (u / 10) (dgt u ++ acc)
    rw [dgt_size] at this
    exact this
theorem decE_19 {n : Int} (hn : -9223372036854775808 ≤ n ∧ n ≤ 9223372036854775807) : (decE n.natAbs ⟨#[]⟩).size ≤ 19 := by
  have := decE_le 18 n.natAbs ⟨#[]⟩ (by omega)
  have e : ByteArray.size { data := #[] } = 0 := rfl
  omega
theorem digits_size {n : Int} (hn : -9223372036854775808 ≤ n ∧ n ≤ 9223372036854775807) : (digitsP n).size ≤ 20 := by
  have := decE_19 hn
  unfold digitsP
  split
  · rw [ByteArray.size_append]
    have : ByteArray.size { data := #[45] } = 1 := rfl
    omega
  · omega
theorem lexDigits (n : Int) (hn : -9223372036854775808 ≤ n ∧ n ≤ 9223372036854775807) (F : PH) : PFn Tryz.prog 72 [.int .i64 n] F (fun v _ => v = .string (digitsP n)) := by
  refine Fn.intro (n := 31) (ts := [2]) Tryz.func72 rfl rfl rfl rfl (by simp) fun B hB => VC.go 100 ?_
  simp only [push_cast, ↓reduceIte, Nat.reduceEqDiff, Nat.reduceAdd, Nat.reduceMul, Nat.reduceSub, Nat.reduceLT, Nat.reduceLeDiff, reduceCtorEq, Nat.reduceMod, Int.reduceEq, Int.reduceLT, Int.reduceLE, Int.reduceToNat, dite_true]
  refine VC.loopF (ι := Int × ByteArray × Option Addr × Nat × PH) (fun i => [(4, .v (.int .i64 i.1)), (3, .v (.slice i.2.2.1 i.2.1.size i.2.2.2.1)), (0, .v (.int .i64 n))]) (fun i => i.2.2.2.2) (fun i => -9223372036854775808 ≤ i.1 ∧ i.1 ≤ 9223372036854775807 ∧ decE i.1.natAbs i.2.1 = decE n.natAbs ⟨#[]⟩ ∧ Sl i.2.2.2.2 1 (.slice i.2.2.1 i.2.1.size i.2.2.2.1) i.2.1.size (strCells i.2.1)) (fun i => i.1.natAbs) (n, ⟨#[]⟩, none, 0, F) ⟨hn.1, hn.2, rfl, ⟨none, 0, rfl, Nat.le_refl _, Nat.zero_le _, rfl, fun h => absurd h (by simp [ByteArray.size])⟩⟩ (by simp [subk, Eng.look, ByteArray.size]) rfl ?_
  rintro ⟨m, s, p, c, F1⟩ ⟨hm1, hm2, hdec, hsl⟩ G hG
  dsimp only at hm1 hm2 hdec hsl hG ⊢
  have hsz : s.size + 1 ≤ 19 := by
    have := decE_ge m.natAbs s
    rw [hdec] at this
    have := decE_19 hn
    omega
  obtain ⟨p', c', e, _, _, hsrc⟩ := hsl
  cases e
  rw [Nat.mul_one] at hsrc
  refine VC.go 100 ?_
  have hone : ∀ (b : Nat) (F' : PH) (d : Int), F' b = some (.cells #[.int .u8 d] 5) → Src F' (some ⟨b, 0, none⟩) 1 [.int .u8 d] := fun b F' d hb => Src.blk hb rfl
  have ht1 : (m.tmod 10).natAbs = m.natAbs % 10 := Int.natAbs_tmod m 10
  have ht2 : (m.tdiv 10).natAbs = m.natAbs / 10 := Int.natAbs_tdiv m 10
  have hw1 : IntKind.i64.wrap (m.tdiv 10) = m.tdiv 10 := IntWalk.i64_in _ (by omega)
  rw [decE_eq] at hdec
  have hq2 : m.natAbs % 10 < 10 := Nat.mod_lt _ (by omega)
  have key : ∀ (d : Int), d = 48 + ((m.natAbs % 10 : Nat) : Int) → [Value.int .u8 d] ++ strCells s = strCells (dgt m.natAbs ++ s) := fun d hd => by
    rw [str_dgt, dgt_u8, hd]; rfl
  have hsz1 : (dgt m.natAbs ++ s).size = 1 + s.size := by rw [dgt_size]; omega
  have hz2 : ∀ t : ByteArray, t.size = 1 + s.size → ByteArray.size { data := #[45] } + t.size ≤ 9223372036854775807 := fun t ht => by
    have : ByteArray.size { data := #[45] } = 1 := rfl
    omega
  by_cases hneg : m.tmod 10 < 0
  · have e1 : IntKind.i64.wrap (0 - m.tmod 10) = 0 - m.tmod 10 := IntWalk.i64_in _ (by omega)
    have e2 : IntKind.i64.wrap (48 + (0 - m.tmod 10)) = 48 + (0 - m.tmod 10) := IntWalk.i64_in _ (by omega)
    have e3 : IntKind.u8.wrap (48 + (0 - m.tmod 10)) = 48 + (0 - m.tmod 10) := IntWalk.u8_in _ (by omega)
    simp only [push_cast, ↓reduceIte, Nat.reduceEqDiff, Nat.reduceAdd, Nat.reduceMul, Nat.reduceSub, Nat.reduceLT, Nat.reduceLeDiff, reduceCtorEq, Nat.reduceMod, Int.reduceEq, Int.reduceLT, Int.reduceLE, Int.reduceToNat, dite_true, eq_true hneg]
    intro b F2 hF2 hb2
    rw [e1, e2, e3] at hb2
    refine Eff.appendFz (n0 := 1) rfl rfl rfl ty44 rfl ty5 rfl rfl rfl rfl rfl (hone b F2 _ hb2) (hsrc.mono hF2) (by omega) ?_
    intro a' c' F3 hF3 hsl3
    rw [key _ (by omega)] at hsl3
    have hcl : F3.cells a' (1 + s.size) = some (strCells (dgt m.natAbs ++ s)) := by
      obtain ⟨_, _, e, _, _, h⟩ := hsl3
      cases e
      obtain ⟨a2, e2, h2⟩ := h.2 (by omega)
      cases e2
      simpa using h2
    by_cases hq : m.tdiv 10 = 0
    · rw [if_pos (by omega)] at hdec
      by_cases hn0 : n < 0
      · simp only [push_cast, ↓reduceIte, Nat.reduceEqDiff, Nat.reduceAdd, Nat.reduceMul, Nat.reduceSub, Nat.reduceLT, Nat.reduceLeDiff, reduceCtorEq, Nat.reduceMod, Int.reduceEq, Int.reduceLT, Int.reduceLE, Int.reduceToNat, dite_true, hw1, eq_true hq, eq_true hn0, hcl, bytesV_str, bstr_str', hz2 _ hsz1]
        exact RetOk.p rfl (by unfold digitsP; rw [if_pos hn0, ← hdec]; rfl)
      · simp only [push_cast, ↓reduceIte, Nat.reduceEqDiff, Nat.reduceAdd, Nat.reduceMul, Nat.reduceSub, Nat.reduceLT, Nat.reduceLeDiff, reduceCtorEq, Nat.reduceMod, Int.reduceEq, Int.reduceLT, Int.reduceLE, Int.reduceToNat, dite_true, hw1, eq_true hq, hn0, hcl, bytesV_str, bstr_str']
        exact RetOk.p rfl (by unfold digitsP; rw [if_neg hn0, ← hdec]; rfl)
    · rw [if_neg (by omega)] at hdec
      simp only [push_cast, ↓reduceIte, Nat.reduceEqDiff, Nat.reduceAdd, Nat.reduceMul, Nat.reduceSub, Nat.reduceLT, Nat.reduceLeDiff, reduceCtorEq, Nat.reduceMod, Int.reduceEq, Int.reduceLT, Int.reduceLE, Int.reduceToNat, dite_true, hw1, hq]
      exact hG (m.tdiv 10, dgt m.natAbs ++ s, some a', c', F3) _ ⟨by dsimp only; omega, by dsimp only; omega, by dsimp only; rw [ht2]; exact hdec, by dsimp only; rw [hsz1]; exact hsl3⟩ (by dsimp only; omega) (by simp [subk, Eng.look, hsz1]) (List.Sublist.refl _) rfl rfl
  · have e2 : IntKind.i64.wrap (48 + m.tmod 10) = 48 + m.tmod 10 := IntWalk.i64_in _ (by omega)
    have e3 : IntKind.u8.wrap (48 + m.tmod 10) = 48 + m.tmod 10 := IntWalk.u8_in _ (by omega)
    simp only [push_cast, ↓reduceIte, Nat.reduceEqDiff, Nat.reduceAdd, Nat.reduceMul, Nat.reduceSub, Nat.reduceLT, Nat.reduceLeDiff, reduceCtorEq, Nat.reduceMod, Int.reduceEq, Int.reduceLT, Int.reduceLE, Int.reduceToNat, dite_true, hneg]
    intro b F2 hF2 hb2
    rw [e2, e3] at hb2
    refine Eff.appendFz (n0 := 1) rfl rfl rfl ty44 rfl ty5 rfl rfl rfl rfl rfl (hone b F2 _ hb2) (hsrc.mono hF2) (by omega) ?_
    intro a' c' F3 hF3 hsl3
    rw [key _ (by omega)] at hsl3
    have hcl : F3.cells a' (1 + s.size) = some (strCells (dgt m.natAbs ++ s)) := by
      obtain ⟨_, _, e, _, _, h⟩ := hsl3
      cases e
      obtain ⟨a2, e2, h2⟩ := h.2 (by omega)
      cases e2
      simpa using h2
    by_cases hq : m.tdiv 10 = 0
    · rw [if_pos (by omega)] at hdec
      by_cases hn0 : n < 0
      · simp only [push_cast, ↓reduceIte, Nat.reduceEqDiff, Nat.reduceAdd, Nat.reduceMul, Nat.reduceSub, Nat.reduceLT, Nat.reduceLeDiff, reduceCtorEq, Nat.reduceMod, Int.reduceEq, Int.reduceLT, Int.reduceLE, Int.reduceToNat, dite_true, hw1, eq_true hq, eq_true hn0, hcl, bytesV_str, bstr_str', hz2 _ hsz1]
        exact RetOk.p rfl (by unfold digitsP; rw [if_pos hn0, ← hdec]; rfl)
      · simp only [push_cast, ↓reduceIte, Nat.reduceEqDiff, Nat.reduceAdd, Nat.reduceMul, Nat.reduceSub, Nat.reduceLT, Nat.reduceLeDiff, reduceCtorEq, Nat.reduceMod, Int.reduceEq, Int.reduceLT, Int.reduceLE, Int.reduceToNat, dite_true, hw1, eq_true hq, hn0, hcl, bytesV_str, bstr_str']
        exact RetOk.p rfl (by unfold digitsP; rw [if_neg hn0, ← hdec]; rfl)
    · rw [if_neg (by omega)] at hdec
      simp only [push_cast, ↓reduceIte, Nat.reduceEqDiff, Nat.reduceAdd, Nat.reduceMul, Nat.reduceSub, Nat.reduceLT, Nat.reduceLeDiff, reduceCtorEq, Nat.reduceMod, Int.reduceEq, Int.reduceLT, Int.reduceLE, Int.reduceToNat, dite_true, hw1, hq]
      exact hG (m.tdiv 10, dgt m.natAbs ++ s, some a', c', F3) _ ⟨by dsimp only; omega, by dsimp only; omega, by dsimp only; rw [ht2]; exact hdec, by dsimp only; rw [hsz1]; exact hsl3⟩ (by dsimp only; omega) (by simp [subk, Eng.look, hsz1]) (List.Sublist.refl _) rfl rfl
end Go.Proofs.YtmiekonofocboaaGreatDoor.Q

/- A number as a text: through the program's own writer of tokens. -/
namespace Go.Proofs.YtmiekonofocboaaGreatDoor.Q
open Go Go.Eng Go.Lib Go.Proofs Go.Proofs.YtmiekonofocboaaGreatDoor.T
set_option linter.unusedSimpArgs false
set_option linter.unusedVariables false
set_option linter.unusedSectionVars false
set_option maxRecDepth 100000
set_option maxHeartbeats 4000000
theorem mixed : Tryz.prog.follows .mixedOrders = true := by kernel_rfl
abbrev I64' (n : Int) : Prop := -9223372036854775808 ≤ n ∧ n ≤ 9223372036854775807
theorem textInt (n : Int) (hn : I64' n) (s : ByteArray) (a : Int) (F : PH) : PFn Tryz.prog 42 [.agg #[.int .i64 4, .string s, .int .i64 n, .int .i64 a]] F (fun v _ => v = .tuple #[.string (digitsP n), .bool true]) := by
  refine Fn.intro (n := 36) (ts := [2, 3]) Tryz.func42 rfl rfl rfl rfl (by simp) fun B hB => VC.go 100 ?_
  simp only [push_cast, ↓reduceIte, Nat.reduceEqDiff, Nat.reduceAdd, Nat.reduceMul, Nat.reduceSub, Nat.reduceLT, Nat.reduceLeDiff, reduceCtorEq, Nat.reduceMod, Int.reduceEq, Int.reduceLT, Int.reduceLE, Int.reduceToNat, dite_true]
  intro b1
  refine CallV.pure (lexDigits n hn F) ?_
  rintro _ F1 hF1 rfl
  simp only [push_cast, ↓reduceIte, Nat.reduceEqDiff, Nat.reduceAdd, Nat.reduceMul, Nat.reduceSub, Nat.reduceLT, Nat.reduceLeDiff, reduceCtorEq, Nat.reduceMod, Int.reduceEq, Int.reduceLT, Int.reduceLE, Int.reduceToNat, dite_true]
  exact RetOk.p rfl rfl
theorem joinInt (n : Int) (hn : I64' n) (s : ByteArray) (a : Int) (F : PH) {q : Addr} {c : Nat} (hq : F.cells q 4 = some [.int .i64 4, .string s, .int .i64 n, .int .i64 a]) :
    PFn Tryz.prog 35 [.slice (some q) 1 c] F (fun v _ => v = .tuple #[.string (digitsP n ++ ⟨#[32]⟩), .int .i64 0]) := by
  have hds := digits_size hn
  refine Fn.intro (n := 36) (ts := [2, 3]) Tryz.func35 rfl rfl rfl rfl (by simp) fun B hB => VC.go 100 ?_
  simp only [push_cast, ↓reduceIte, Nat.reduceEqDiff, Nat.reduceAdd, Nat.reduceMul, Nat.reduceSub, Nat.reduceLT, Nat.reduceLeDiff, reduceCtorEq, Nat.reduceMod, Int.reduceEq, Int.reduceLT, Int.reduceLE, Int.reduceToNat, dite_true]
  refine VC.loopP (ι := Nat × Value × PH) (fun i => [(11, .v (.int .i64 (i.1 : Int))), (10, .v (.int .i64 1)), (9, .v (.slice (some q) 1 c)), (4, .v i.2.1)]) (fun i => i.2.2) (fun _ => []) (fun i => F.le i.2.2 ∧ (i.1 = 0 ∧ i.2.1 = .slice none 0 0 ∨ i.1 = 1 ∧ ∃ p c, i.2.1 = .slice (some p) ((digitsP n).size + 1) c ∧ i.2.2.cells p ((digitsP n).size + 1) = some (strCells (digitsP n ++ ⟨#[32]⟩)))) (fun i => 1 - i.1) (0, .slice none 0 0, F) ⟨PH.le_refl _, .inl ⟨rfl, rfl⟩⟩ (by simp [subk, Eng.look]) rfl ⟨[], by simp, List.Perm.refl _⟩ ?_
  rintro ⟨j, v, F1⟩ ⟨hF1, hj⟩ G hG
  dsimp only at hF1 hj hG ⊢
  refine VC.emp (VC.go 100 ?_)
  have n1 : ((0 : Nat) < 0 + 1) = True := eq_true (by decide)
  have n2 : ((0 : Int) < 0 + 1) = True := eq_true (by decide)
  have n3 : ((0 : Int) + 1 < 1) = False := eq_false (by decide)
  have n4 : ((0 : Nat) + 1 < 1) = False := eq_false (by decide)
  have hsz : (digitsP n ++ ⟨#[32]⟩ : ByteArray).size = (digitsP n).size + 1 := by rw [ByteArray.size_append]; rfl
  rcases hj with ⟨rfl, rfl⟩ | ⟨rfl, p, c2, rfl, hcl⟩
  · have hq1 := hF1.cells hq
    simp only [push_cast, ↓reduceIte, Nat.reduceEqDiff, Nat.reduceAdd, Nat.reduceMul, Nat.reduceSub, Nat.reduceLT, Nat.reduceLeDiff, reduceCtorEq, Nat.reduceMod, Int.reduceEq, Int.reduceLT, Int.reduceLE, Int.reduceToNat, dite_true, hq1, Nat.zero_mul, add_zero', n1, n2]
    intro b
    refine CallV.pure (textInt n hn s a F1) ?_
    rintro _ F2 hF2 rfl
    simp only [push_cast, ↓reduceIte, Nat.reduceEqDiff, Nat.reduceAdd, Nat.reduceMul, Nat.reduceSub, Nat.reduceLT, Nat.reduceLeDiff, reduceCtorEq, Nat.reduceMod, Int.reduceEq, Int.reduceLT, Int.reduceLE, Int.reduceToNat, dite_true]
    refine Eff.appendBS (tx := digitsP n) rfl rfl rfl ty44 rfl ty9 rfl ty5 rfl rfl rfl rfl rfl (List.Perm.refl _) (BRow.nil _) (by simp; omega) ?_
    intro v3 r3 hr3
    rw [List.nil_append] at hr3
    obtain ⟨p3, c3, rfl, _, _⟩ := hr3.val
    simp only [push_cast, ↓reduceIte, Nat.reduceEqDiff, Nat.reduceAdd, Nat.reduceMul, Nat.reduceSub, Nat.reduceLT, Nat.reduceLeDiff, reduceCtorEq, Nat.reduceMod, Int.reduceEq, Int.reduceLT, Int.reduceLE, Int.reduceToNat, dite_true]
    intro b4 F4 hF4 hb4
    refine Eff.fz (Eff.appendBL (ys := [.int .u8 32]) rfl rfl rfl ty44 rfl ty5 rfl rfl rfl rfl rfl (Src.blk hb4 rfl) (by simp [Value.oneCell']) (List.Perm.refl _) hr3 (by rw [strCells_length]; omega) ?_)
    intro v5 r5 hr5
    refine ⟨r5, [], List.Perm.refl _, fun F5 hF5 hl5 => ?_⟩
    have e5 : strCells (digitsP n) ++ [Value.int .u8 32] = strCells (digitsP n ++ ⟨#[32]⟩) := by simp [strCells]
    rw [e5] at hr5
    have hs5 := hr5.sl hl5
    rw [strCells_length, hsz] at hs5
    obtain ⟨p5, c5, rfl, _, _, hs5⟩ := hs5
    obtain ⟨a5, rfl, hc5⟩ := hs5.2 (by omega)
    rw [Nat.mul_one] at hc5
    simp only [push_cast, ↓reduceIte, Nat.reduceEqDiff, Nat.reduceAdd, Nat.reduceMul, Nat.reduceSub, Nat.reduceLT, Nat.reduceLeDiff, reduceCtorEq, Nat.reduceMod, Int.reduceEq, Int.reduceLT, Int.reduceLE, Int.reduceToNat, dite_true]
    exact hG (1, _, F5) _ ⟨PH.le_trans (PH.le_trans (PH.le_trans hF1 hF2) hF4) hF5, .inr ⟨rfl, a5, c5, rfl, hc5⟩⟩ (by dsimp only; omega) (by simp [subk, Eng.look]; decide) (List.nil_sublist _) rfl ⟨[], by simp, List.Perm.refl _⟩
  · simp only [push_cast, ↓reduceIte, Nat.reduceEqDiff, Nat.reduceAdd, Nat.reduceMul, Nat.reduceSub, Nat.reduceLT, Nat.reduceLeDiff, reduceCtorEq, Nat.reduceMod, Int.reduceEq, Int.reduceLT, Int.reduceLE, Int.reduceToNat, dite_true, hcl, bytesV_str, bstr_str', n3, n4, eq_false (show ¬ (16384 : Int) < ((digitsP n).size : Int) + 1 by omega)]
    exact RetOk.p rfl rfl
theorem digits_script (n : Int) (hn : I64' n) (F : PH) : PFn Tryz.prog 23 [.int .i64 n] F (fun v _ => v = .string (digitsP n)) := by
  refine Fn.intro (n := 17) (ts := [2]) Tryz.func23 rfl rfl rfl rfl (by simp) fun B hB => VC.go 100 ?_
  simp only [push_cast, ↓reduceIte, Nat.reduceEqDiff, Nat.reduceAdd, Nat.reduceMul, Nat.reduceSub, Nat.reduceLT, Nat.reduceLeDiff, reduceCtorEq, Nat.reduceMod, Int.reduceEq, Int.reduceLT, Int.reduceLE, Int.reduceToNat, dite_true]
  intro b F1 hF1 hb
  have hb4 : F1.cells ⟨b, 0, none⟩ 4 = some [.int .i64 4, .string ⟨#[]⟩, .int .i64 n, .int .i64 0] := by
    obtain ⟨a, e, h⟩ := (Src.blk hb rfl : Src F1 _ 4 _).2 (by omega)
    cases e
    exact h
  refine CallV.pure (joinInt n hn ⟨#[]⟩ 0 F1 hb4) ?_
  rintro _ F2 hF2 rfl
  have hds := digits_size hn
  have hsz : (digitsP n ++ ⟨#[32]⟩ : ByteArray).size = (digitsP n).size + 1 := by rw [ByteArray.size_append]; rfl
  have hw : IntKind.i64.wrap (((digitsP n).size : Int) + 1 - 1) = ((digitsP n).size : Int) := by rw [IntWalk.i64_in _ (by omega)]; omega
  have hx : (digitsP n ++ ⟨#[32]⟩ : ByteArray).extract 0 (digitsP n).size = digitsP n := by simp [ByteArray.extract_append]
  simp only [push_cast, ↓reduceIte, Nat.reduceEqDiff, Nat.reduceAdd, Nat.reduceMul, Nat.reduceSub, Nat.reduceLT, Nat.reduceLeDiff, reduceCtorEq, Nat.reduceMod, Int.reduceEq, Int.reduceLT, Int.reduceLE, Int.reduceToNat, dite_true, hsz]
  simp only [push_cast, ↓reduceIte, Nat.reduceEqDiff, Nat.reduceAdd, Nat.reduceMul, Nat.reduceSub, Nat.reduceLT, Nat.reduceLeDiff, reduceCtorEq, Nat.reduceMod, Int.reduceEq, Int.reduceLT, Int.reduceLE, Int.reduceToNat, dite_true, hw, hx, Int.toNat_natCast, eq_true (show ((digitsP n).size : Int) ≤ ((digitsP n).size : Int) + 1 by omega)]
  exact RetOk.p rfl rfl
end Go.Proofs.YtmiekonofocboaaGreatDoor.Q
