/- Numbers as texts: what the program does (lex.digits). -/
import Derived.Test.YtmiekonofocboaaGreatDoorD1
namespace Go.Proofs.YtmiekonofocboaaGreatDoor.Q
open Go Go.Eng Go.Lib Go.Proofs Go.Proofs.YtmiekonofocboaaGreatDoor.T
set_option linter.unusedSimpArgs false
set_option linter.unusedVariables false
set_option linter.unusedSectionVars false
set_option maxRecDepth 100000
set_option maxHeartbeats 4000000
theorem str_dgt (u : Nat) (s : ByteArray) : strCells (dgt u ++ s) = .int .u8 ((UInt8.ofNat (48 + u % 10)).toNat : Nat) :: strCells s := by
  simp [strCells, dgt]
theorem dgt_u8 (u : Nat) : ((UInt8.ofNat (48 + u % 10)).toNat : Int) = 48 + ((u % 10 : Nat) : Int) := by
  rw [UInt8.toNat_ofNat', Nat.mod_eq_of_lt (by omega)]
  simp
theorem dgt_size (u : Nat) (s : ByteArray) : (dgt u ++ s).size = s.size + 1 := by
  rw [ByteArray.size_append]
  have : (dgt u).size = 1 := rfl
  omega
theorem decE_le : ∀ (k u : Nat) (acc : ByteArray), u < 10 ^ (k + 1) → (decE u acc).size ≤ acc.size + (k + 1)
  | 0, u, acc, h => by
    rw [decE_eq, if_pos (by omega), dgt_size]
    omega
  | k + 1, u, acc, h => by
    rw [decE_eq]
    split
    · rw [dgt_size]; omega
    · have := decE_le k (u / 10) (dgt u ++ acc) (by rw [Nat.pow_succ] at h; omega)
      rw [dgt_size] at this
      omega
theorem decF_ge : ∀ (k u : Nat) (acc : ByteArray), acc.size ≤ (decF k u acc).size
  | 0, u, acc => Nat.le_refl _
  | k + 1, u, acc => by
    rw [decF]
    split
    · rw [dgt_size]; omega
    · have := decF_ge k (u / 10) (dgt u ++ acc)
      rw [dgt_size] at this
      omega
theorem decE_ge (u : Nat) (acc : ByteArray) : acc.size + 1 ≤ (decE u acc).size := by
  show _ ≤ (decF (u + 1) u acc).size
  rw [decF]
  split
  · rw [dgt_size]; omega
  · have := decF_ge u (u / 10) (dgt u ++ acc)
    rw [dgt_size] at this
    exact this
theorem decE_19 {n : Int} (hn : -9223372036854775808 ≤ n ∧ n ≤ 9223372036854775807) : (decE n.natAbs ⟨#[]⟩).size ≤ 19 := by
  have := decE_le 18 n.natAbs ⟨#[]⟩ (by omega)
  have e : ByteArray.size { data := #[] } = 0 := rfl
  omega
theorem digits_size {n : Int} (hn : -9223372036854775808 ≤ n ∧ n ≤ 9223372036854775807) : (digitsP n).size ≤ 20 := by
  have := decE_19 hn
  unfold digitsP
  split
  · rw [ByteArray.size_append]
    have : ByteArray.size { data := #[45] } = 1 := rfl
    omega
  · omega
theorem lexDigits (n : Int) (hn : -9223372036854775808 ≤ n ∧ n ≤ 9223372036854775807) (F : PH) : PFn Tryz.prog 72 [.int .i64 n] F (fun v _ => v = .string (digitsP n)) := by
  refine Fn.intro (n := 31) (ts := [2]) Tryz.func72 rfl rfl rfl rfl (by simp) fun B hB => VC.go 100 ?_
  simp only [push_cast, ↓reduceIte, Nat.reduceEqDiff, Nat.reduceAdd, Nat.reduceMul, Nat.reduceSub, Nat.reduceLT, Nat.reduceLeDiff, reduceCtorEq, Nat.reduceMod, Int.reduceEq, Int.reduceLT, Int.reduceLE, Int.reduceToNat, dite_true]
  refine VC.loopF (ι := Int × ByteArray × Option Addr × Nat × PH) (fun i => [(4, .v (.int .i64 i.1)), (3, .v (.slice i.2.2.1 i.2.1.size i.2.2.2.1)), (0, .v (.int .i64 n))]) (fun i => i.2.2.2.2) (fun i => -9223372036854775808 ≤ i.1 ∧ i.1 ≤ 9223372036854775807 ∧ decE i.1.natAbs i.2.1 = decE n.natAbs ⟨#[]⟩ ∧ Sl i.2.2.2.2 1 (.slice i.2.2.1 i.2.1.size i.2.2.2.1) i.2.1.size (strCells i.2.1)) (fun i => i.1.natAbs) (n, ⟨#[]⟩, none, 0, F) ⟨hn.1, hn.2, rfl, ⟨none, 0, rfl, Nat.le_refl _, Nat.zero_le _, rfl, fun h => absurd h (by simp [ByteArray.size])⟩⟩ (by simp [subk, Eng.look, ByteArray.size]) rfl ?_
  rintro ⟨m, s, p, c, F1⟩ ⟨hm1, hm2, hdec, hsl⟩ G hG
  dsimp only at hm1 hm2 hdec hsl hG ⊢
  have hsz : s.size + 1 ≤ 19 := by
    have := decE_ge m.natAbs s
    rw [hdec] at this
    have := decE_19 hn
    omega
  obtain ⟨p', c', e, _, _, hsrc⟩ := hsl
  cases e
  rw [Nat.mul_one] at hsrc
  refine VC.go 100 ?_
  have hone : ∀ (b : Nat) (F' : PH) (d : Int), F' b = some (.cells #[.int .u8 d] 5) → Src F' (some ⟨b, 0, none⟩) 1 [.int .u8 d] := fun b F' d hb => Src.blk hb rfl
  have ht1 : (m.tmod 10).natAbs = m.natAbs % 10 := Int.natAbs_tmod m 10
  have ht2 : (m.tdiv 10).natAbs = m.natAbs / 10 := Int.natAbs_tdiv m 10
  have hw1 : IntKind.i64.wrap (m.tdiv 10) = m.tdiv 10 := IntWalk.i64_in _ (by omega)
  rw [decE_eq] at hdec
  have hq2 : m.natAbs % 10 < 10 := Nat.mod_lt _ (by omega)
  have key : ∀ (d : Int), d = 48 + ((m.natAbs % 10 : Nat) : Int) → [Value.int .u8 d] ++ strCells s = strCells (dgt m.natAbs ++ s) := fun d hd => by
    rw [str_dgt, dgt_u8, hd]; rfl
  have hsz1 : (dgt m.natAbs ++ s).size = 1 + s.size := by rw [dgt_size]; omega
  have hz2 : ∀ t : ByteArray, t.size = 1 + s.size → ByteArray.size { data := #[45] } + t.size ≤ 9223372036854775807 := fun t ht => by
    have : ByteArray.size { data := #[45] } = 1 := rfl
    omega
  by_cases hneg : m.tmod 10 < 0
  · have e1 : IntKind.i64.wrap (0 - m.tmod 10) = 0 - m.tmod 10 := IntWalk.i64_in _ (by omega)
    have e2 : IntKind.i64.wrap (48 + (0 - m.tmod 10)) = 48 + (0 - m.tmod 10) := IntWalk.i64_in _ (by omega)
    have e3 : IntKind.u8.wrap (48 + (0 - m.tmod 10)) = 48 + (0 - m.tmod 10) := IntWalk.u8_in _ (by omega)
    simp only [push_cast, ↓reduceIte, Nat.reduceEqDiff, Nat.reduceAdd, Nat.reduceMul, Nat.reduceSub, Nat.reduceLT, Nat.reduceLeDiff, reduceCtorEq, Nat.reduceMod, Int.reduceEq, Int.reduceLT, Int.reduceLE, Int.reduceToNat, dite_true, eq_true hneg]
    intro b F2 hF2 hb2
    rw [e1, e2, e3] at hb2
    refine Eff.appendFz (n0 := 1) rfl rfl rfl ty44 rfl ty5 rfl rfl rfl rfl rfl (hone b F2 _ hb2) (hsrc.mono hF2) (by omega) ?_
    intro a' c' F3 hF3 hsl3
    rw [key _ (by omega)] at hsl3
    have hcl : F3.cells a' (1 + s.size) = some (strCells (dgt m.natAbs ++ s)) := by
      obtain ⟨_, _, e, _, _, h⟩ := hsl3
      cases e
      obtain ⟨a2, e2, h2⟩ := h.2 (by omega)
      cases e2
      simpa using h2
    by_cases hq : m.tdiv 10 = 0
    · rw [if_pos (by omega)] at hdec
      by_cases hn0 : n < 0
      · simp only [push_cast, ↓reduceIte, Nat.reduceEqDiff, Nat.reduceAdd, Nat.reduceMul, Nat.reduceSub, Nat.reduceLT, Nat.reduceLeDiff, reduceCtorEq, Nat.reduceMod, Int.reduceEq, Int.reduceLT, Int.reduceLE, Int.reduceToNat, dite_true, hw1, eq_true hq, eq_true hn0, hcl, bytesV_str, bstr_str', hz2 _ hsz1]
        exact RetOk.p rfl (by unfold digitsP; rw [if_pos hn0, ← hdec]; rfl)
      · simp only [push_cast, ↓reduceIte, Nat.reduceEqDiff, Nat.reduceAdd, Nat.reduceMul, Nat.reduceSub, Nat.reduceLT, Nat.reduceLeDiff, reduceCtorEq, Nat.reduceMod, Int.reduceEq, Int.reduceLT, Int.reduceLE, Int.reduceToNat, dite_true, hw1, eq_true hq, hn0, hcl, bytesV_str, bstr_str']
        exact RetOk.p rfl (by unfold digitsP; rw [if_neg hn0, ← hdec]; rfl)
    · rw [if_neg (by omega)] at hdec
      simp only [push_cast, ↓reduceIte, Nat.reduceEqDiff, Nat.reduceAdd, Nat.reduceMul, Nat.reduceSub, Nat.reduceLT, Nat.reduceLeDiff, reduceCtorEq, Nat.reduceMod, Int.reduceEq, Int.reduceLT, Int.reduceLE, Int.reduceToNat, dite_true, hw1, hq]
      exact hG (m.tdiv 10, dgt m.natAbs ++ s, some a', c', F3) _ ⟨by dsimp only; omega, by dsimp only; omega, by dsimp only; rw [ht2]; exact hdec, by dsimp only; rw [hsz1]; exact hsl3⟩ (by dsimp only; omega) (by simp [subk, Eng.look, hsz1]) (List.Sublist.refl _) rfl rfl
  · have e2 : IntKind.i64.wrap (48 + m.tmod 10) = 48 + m.tmod 10 := IntWalk.i64_in _ (by omega)
    have e3 : IntKind.u8.wrap (48 + m.tmod 10) = 48 + m.tmod 10 := IntWalk.u8_in _ (by omega)
    simp only [push_cast, ↓reduceIte, Nat.reduceEqDiff, Nat.reduceAdd, Nat.reduceMul, Nat.reduceSub, Nat.reduceLT, Nat.reduceLeDiff, reduceCtorEq, Nat.reduceMod, Int.reduceEq, Int.reduceLT, Int.reduceLE, Int.reduceToNat, dite_true, hneg]
    intro b F2 hF2 hb2
    rw [e2, e3] at hb2
    refine Eff.appendFz (n0 := 1) rfl rfl rfl ty44 rfl ty5 rfl rfl rfl rfl rfl (hone b F2 _ hb2) (hsrc.mono hF2) (by omega) ?_
    intro a' c' F3 hF3 hsl3
    rw [key _ (by omega)] at hsl3
    have hcl : F3.cells a' (1 + s.size) = some (strCells (dgt m.natAbs ++ s)) := by
      obtain ⟨_, _, e, _, _, h⟩ := hsl3
      cases e
      obtain ⟨a2, e2, h2⟩ := h.2 (by omega)
      cases e2
      simpa using h2
    by_cases hq : m.tdiv 10 = 0
    · rw [if_pos (by omega)] at hdec
      by_cases hn0 : n < 0
      · simp only [push_cast, ↓reduceIte, Nat.reduceEqDiff, Nat.reduceAdd, Nat.reduceMul, Nat.reduceSub, Nat.reduceLT, Nat.reduceLeDiff, reduceCtorEq, Nat.reduceMod, Int.reduceEq, Int.reduceLT, Int.reduceLE, Int.reduceToNat, dite_true, hw1, eq_true hq, eq_true hn0, hcl, bytesV_str, bstr_str', hz2 _ hsz1]
        exact RetOk.p rfl (by unfold digitsP; rw [if_pos hn0, ← hdec]; rfl)
      · simp only [push_cast, ↓reduceIte, Nat.reduceEqDiff, Nat.reduceAdd, Nat.reduceMul, Nat.reduceSub, Nat.reduceLT, Nat.reduceLeDiff, reduceCtorEq, Nat.reduceMod, Int.reduceEq, Int.reduceLT, Int.reduceLE, Int.reduceToNat, dite_true, hw1, eq_true hq, hn0, hcl, bytesV_str, bstr_str']
        exact RetOk.p rfl (by unfold digitsP; rw [if_neg hn0, ← hdec]; rfl)
    · rw [if_neg (by omega)] at hdec
      simp only [push_cast, ↓reduceIte, Nat.reduceEqDiff, Nat.reduceAdd, Nat.reduceMul, Nat.reduceSub, Nat.reduceLT, Nat.reduceLeDiff, reduceCtorEq, Nat.reduceMod, Int.reduceEq, Int.reduceLT, Int.reduceLE, Int.reduceToNat, dite_true, hw1, hq]
      exact hG (m.tdiv 10, dgt m.natAbs ++ s, some a', c', F3) _ ⟨by dsimp only; omega, by dsimp only; omega, by dsimp only; rw [ht2]; exact hdec, by dsimp only; rw [hsz1]; exact hsl3⟩ (by dsimp only; omega) (by simp [subk, Eng.look, hsz1]) (List.Sublist.refl _) rfl rfl
end Go.Proofs.YtmiekonofocboaaGreatDoor.Q
