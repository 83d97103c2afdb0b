/- Graphs: the law that nodes' numbers play no part. -/
import Derived.Test.YthdbmbabfngakaaH22
namespace Go.Proofs.Ythdbmbabfngakaa.G
open Go Go.Eng Go.Proofs Go.Proofs.Ythdbmbabfngakaa.T Go.Proofs.Ythdbmbabfngakaa.K
set_option linter.unusedSimpArgs false
set_option linter.unusedVariables false
set_option maxRecDepth 100000
set_option maxHeartbeats 4000000
/-- A number turned by some. -/
def turnN (n k : Nat) (c : Int) : Int := if 0 ≤ c ∧ c < n then (c + k).tmod n else -1
theorem turnN_in {n k j : Nat} (h : j < n) : turnN n k j = ((j + k) % n : Nat) := by
  unfold turnN
  rw [if_pos ⟨by omega, by omega⟩]
  rfl
theorem turnL (F : PH) (b5 b6 n k : Nat) (vl : Value) (l : List Int) (hl : Ints F vl l) (hlen : l.length ≤ 1000000) (hn : 0 < n) (hn2 : n ≤ 1000000) (hk : k ≤ 1000000) (f5 : F b5 = some (.cells #[.int .i64 n] 3 (0, 0))) (f6 : F b6 = some (.cells #[.int .i64 k] 3 (0, 0))) :
    RowFn Try.prog 18 [vl, .pointer (some ⟨b5, 0, none⟩), .pointer (some ⟨b6, 0, none⟩)] F 3 1 ((l.map (turnN n k)).map (.int .i64)) := by
  obtain ⟨pl, cl, rfl, hl1, hl2, hl3⟩ := hl
  refine Fn.intro (n := 41) (ts := [4]) Try.func18 rfl rfl rfl rfl (by simp) fun B hB => VC.emp (VC.go 100 ?_)
  simp only [push_cast, ↓reduceIte, Nat.reduceEqDiff, Nat.reduceAdd, Nat.reduceMul, Nat.reduceSub, Nat.reduceLT, Nat.reduceLeDiff, reduceCtorEq, Nat.reduceMod, Int.reduceEq, Int.reduceLT, Int.reduceLE, Int.reduceToNat, dite_true]
  refine VC.loopW (ι := Nat × Value × PH × PH) (fun i => [(6, .v (.int .i64 i.1)), (5, .v i.2.1), (2, .v (.pointer (some ⟨b6, 0, none⟩))), (1, .v (.pointer (some ⟨b5, 0, none⟩))), (0, .v (.slice pl l.length cl))]) (fun _ => []) (fun i => i.2.2.2) (fun i => [i.2.2.1])
    (fun i => i.1 ≤ l.length ∧ F.le i.2.2.2 ∧ Row i.2.2.1 3 1 i.2.1 (((l.take i.1).map (turnN n k)).map (.int .i64))) (fun i => l.length - i.1) (0, .slice none 0 0, PH.emp, F) ⟨Nat.zero_le _, PH.le_refl _, Row.nil _ _⟩ (by simp [subk, Eng.look]) (List.Sublist.refl _) rfl (subR_refl _) ?_
  rintro ⟨i, vi, ri, F1⟩ ⟨hi, hF1, hri⟩ G hG
  dsimp only at hi hF1 hri hG ⊢
  refine VC.go 100 ?_
  by_cases h : i < l.length
  case neg =>
    have h' : ¬ (i : Int) < (l.length : Int) := by omega
    rw [List.take_of_length_le (by omega)] at hri
    simp only [push_cast, ↓reduceIte, Nat.reduceEqDiff, Nat.reduceAdd, Nat.reduceMul, Nat.reduceSub, Nat.reduceLT, Nat.reduceLeDiff, reduceCtorEq, Nat.reduceMod, Int.reduceEq, Int.reduceLT, Int.reduceLE, Int.reduceToNat, dite_true, h']
    exact RetOk.r rfl (.refl _) ⟨ri, rfl, hri⟩
  have h' : (i : Int) < (l.length : Int) := by omega
  have h0 : (0 : Int) ≤ (i : Int) := by omega
  have ew : IntKind.i64.wrap ((i : Int) + 1) = ((i + 1 : Nat) : Int) := wadd i h (Nat.le_trans hl1 hl2)
  obtain ⟨ql, rfl, hql⟩ := (hl3.mono hF1).elem1 (i := i) (v := .int .i64 l[i]) (by simp [h])
  have c5 : F1.cell ⟨b5, 0, none⟩ = some (.int .i64 n) := by rw [cell_one (hF1 _ _ f5)]; rfl
  have c6 : F1.cell ⟨b6, 0, none⟩ = some (.int .i64 k) := by rw [cell_one (hF1 _ _ f6)]; rfl
  have hstep : ((l.take (i + 1)).map (turnN n k)).map (Value.int .i64) = ((l.take i).map (turnN n k)).map (.int .i64) ++ [.int .i64 (turnN n k l[i])] := by
    rw [List.take_succ_eq_append_getElem h, List.map_append, List.map_append]; rfl
  have hfin : ∀ (y : Int), y = turnN n k l[i] → ∀ (F3 : PH) (S' : St), F1.le F3 → ∀ (v' : Value) (r' : PH), Row r' 3 1 v' (((l.take i).map (turnN n k)).map (.int .i64) ++ [.int .i64 y]) → subk S'.L [(6, .v (.int .i64 ((i + 1 : Nat) : Int))), (5, .v v'), (2, .v (.pointer (some ⟨b6, 0, none⟩))), (1, .v (.pointer (some ⟨b5, 0, none⟩))), (0, .v (.slice (some ql) l.length cl))] → S'.F = F3 → S'.R = [r'] → G S' := by
    intro y hy F3 S' hF3 v' r' hr' k1 k3 k4
    refine hG (i + 1, v', r', F3) S' ⟨h, PH.le_trans hF1 hF3, ?_⟩ (by simp; omega) k1 (List.nil_sublist _) k3 (by rw [k4]; exact subR_refl _)
    dsimp only
    rw [hstep, ← hy]
    exact hr'
  obtain ⟨pv, mv, cv, rfl, hmv, _⟩ := hri.len
  simp only [push_cast, ↓reduceIte, Nat.reduceEqDiff, Nat.reduceAdd, Nat.reduceMul, Nat.reduceSub, Nat.reduceLT, Nat.reduceLeDiff, reduceCtorEq, Nat.reduceMod, Int.reduceEq, Int.reduceLT, Int.reduceLE, Int.reduceToNat, dite_true, h']
  refine VC.draw (.q 0 (.q 1 (.q 2 (.q 3 (.q 4 (.q 5 (.q 6 (.q 7 (.q 8 (.q 9 (.q 10 (.q 11 (.q 12 (.done)))))))))))))) mixed (by rfl) ?_
  by_cases hc : 0 ≤ l[i] ∧ l[i] < n
  · obtain ⟨hc0, hcn⟩ := hc
    have hw1 : IntKind.i64.wrap (l[i] + (k : Int)) = l[i] + (k : Int) := IntWalk.i64_in _ (by omega)
    have hn0 : ¬ (n : Int) = 0 := by omega
    have ht : (l[i] + (k : Int)).tmod n = turnN n k l[i] := by unfold turnN; rw [if_pos ⟨hc0, hcn⟩]
    simp only [push_cast, ↓reduceIte, Nat.reduceEqDiff, Nat.reduceAdd, Nat.reduceMul, Nat.reduceSub, Nat.reduceLT, Nat.reduceLeDiff, reduceCtorEq, Nat.reduceMod, Int.reduceEq, Int.reduceLT, Int.reduceLE, Int.reduceToNat, dite_true, h', h0, hql, eq_true hc0, c5, eq_true hcn]
    refine VC.go 100 ?_
    simp only [push_cast, ↓reduceIte, Nat.reduceEqDiff, Nat.reduceAdd, Nat.reduceMul, Nat.reduceSub, Nat.reduceLT, Nat.reduceLeDiff, reduceCtorEq, Nat.reduceMod, Int.reduceEq, Int.reduceLT, Int.reduceLE, Int.reduceToNat, dite_true]
    refine VC.draw (.q 0 (.q 1 (.q 2 (.q 3 (.q 4 (.q 5 (.q 6 (.q 7 (.q 8 (.e 9 (.e 10 (.e 11 (.done))))))))))))) mixed (by rfl) ?_
    simp only [push_cast, ↓reduceIte, Nat.reduceEqDiff, Nat.reduceAdd, Nat.reduceMul, Nat.reduceSub, Nat.reduceLT, Nat.reduceLeDiff, reduceCtorEq, Nat.reduceMod, Int.reduceEq, Int.reduceLT, Int.reduceLE, Int.reduceToNat, dite_true, h', h0, hql, c5, c6, hw1, hn0]
    intro b35 F2 hF2 hb35
    refine Eff.append (ys := [.int .i64 ((l[i] + (k : Int)).tmod n)]) rfl rfl rfl ty22 rfl ty3 rfl (by decide) rfl rfl (List.Perm.refl _) hri (Src.blk hb35 rfl) (by simp [Value.oneCell']) (by simp; omega) (by decide) ?_
    intro v2 r2 hr2
    simp only [push_cast, ↓reduceIte, Nat.reduceEqDiff, Nat.reduceAdd, Nat.reduceMul, Nat.reduceSub, Nat.reduceLT, Nat.reduceLeDiff, reduceCtorEq, Nat.reduceMod, Int.reduceEq, Int.reduceLT, Int.reduceLE, Int.reduceToNat, dite_true]
    refine VC.go 100 ?_
    simp only [push_cast, ↓reduceIte, Nat.reduceEqDiff, Nat.reduceAdd, Nat.reduceMul, Nat.reduceSub, Nat.reduceLT, Nat.reduceLeDiff, reduceCtorEq, Nat.reduceMod, Int.reduceEq, Int.reduceLT, Int.reduceLE, Int.reduceToNat, dite_true, ew]
    exact hfin _ ht F2 _ hF2 v2 r2 hr2 (by simp [subk, Eng.look]) rfl rfl
  · have ht : (-1 : Int) = turnN n k l[i] := by unfold turnN; rw [if_neg hc]
    have fin : ∀ κ : Prop, (¬ 0 ≤ l[i] → κ) → (0 ≤ l[i] → ¬ l[i] < n → κ) → κ := fun κ k1 k2 => by
      by_cases g : 0 ≤ l[i]
      · exact k2 g fun e => hc ⟨g, e⟩
      · exact k1 g
    refine fin _ (fun g => ?_) (fun g g2 => ?_)
    · simp only [push_cast, ↓reduceIte, Nat.reduceEqDiff, Nat.reduceAdd, Nat.reduceMul, Nat.reduceSub, Nat.reduceLT, Nat.reduceLeDiff, reduceCtorEq, Nat.reduceMod, Int.reduceEq, Int.reduceLT, Int.reduceLE, Int.reduceToNat, dite_true, h', h0, hql, g]
      refine VC.go 100 ?_
      simp only [push_cast, ↓reduceIte, Nat.reduceEqDiff, Nat.reduceAdd, Nat.reduceMul, Nat.reduceSub, Nat.reduceLT, Nat.reduceLeDiff, reduceCtorEq, Nat.reduceMod, Int.reduceEq, Int.reduceLT, Int.reduceLE, Int.reduceToNat, dite_true]
      intro b38 F2 hF2 hb38
      refine Eff.append (ys := [.int .i64 (-1)]) rfl rfl rfl ty22 rfl ty3 rfl (by decide) rfl rfl (List.Perm.refl _) hri (Src.blk hb38 rfl) (by simp [Value.oneCell']) (by simp; omega) (by decide) ?_
      intro v2 r2 hr2
      simp only [push_cast, ↓reduceIte, Nat.reduceEqDiff, Nat.reduceAdd, Nat.reduceMul, Nat.reduceSub, Nat.reduceLT, Nat.reduceLeDiff, reduceCtorEq, Nat.reduceMod, Int.reduceEq, Int.reduceLT, Int.reduceLE, Int.reduceToNat, dite_true, ew]
      exact hfin _ ht F2 _ hF2 v2 r2 hr2 (by simp [subk, Eng.look]) rfl rfl
    · simp only [push_cast, ↓reduceIte, Nat.reduceEqDiff, Nat.reduceAdd, Nat.reduceMul, Nat.reduceSub, Nat.reduceLT, Nat.reduceLeDiff, reduceCtorEq, Nat.reduceMod, Int.reduceEq, Int.reduceLT, Int.reduceLE, Int.reduceToNat, dite_true, h', h0, hql, eq_true g, c5, g2]
      refine VC.go 100 ?_
      simp only [push_cast, ↓reduceIte, Nat.reduceEqDiff, Nat.reduceAdd, Nat.reduceMul, Nat.reduceSub, Nat.reduceLT, Nat.reduceLeDiff, reduceCtorEq, Nat.reduceMod, Int.reduceEq, Int.reduceLT, Int.reduceLE, Int.reduceToNat, dite_true]
      intro b38 F2 hF2 hb38
      refine Eff.append (ys := [.int .i64 (-1)]) rfl rfl rfl ty22 rfl ty3 rfl (by decide) rfl rfl (List.Perm.refl _) hri (Src.blk hb38 rfl) (by simp [Value.oneCell']) (by simp; omega) (by decide) ?_
      intro v2 r2 hr2
      simp only [push_cast, ↓reduceIte, Nat.reduceEqDiff, Nat.reduceAdd, Nat.reduceMul, Nat.reduceSub, Nat.reduceLT, Nat.reduceLeDiff, reduceCtorEq, Nat.reduceMod, Int.reduceEq, Int.reduceLT, Int.reduceLE, Int.reduceToNat, dite_true, ew]
      exact hfin _ ht F2 _ hF2 v2 r2 hr2 (by simp [subk, Eng.look]) rfl rfl
/-- A graph with its nodes' numbers turned. -/
def turnG (k : Nat) (g : Gr) : Gr := ⟨g.roots.map (turnN g.nodes.length k), (List.range g.nodes.length).map fun j => match g.nodes[(j + g.nodes.length - k) % g.nodes.length]? with
  | some m => { m with kids := m.kids.map (turnN g.nodes.length k) }
  | none => ⟨0, 0, [], []⟩⟩
theorem mod_back {n k i : Nat} (hi : i < n) (hk : k < n) : ((i + k) % n + n - k) % n = i := by
  by_cases h : i + k < n
  · rw [Nat.mod_eq_of_lt h, show i + k + n - k = i + n from by omega, Nat.add_mod_right, Nat.mod_eq_of_lt hi]
  · rw [show i + k = (i + k - n) + n from by omega, Nat.add_mod_right, Nat.mod_eq_of_lt (show i + k - n < n from by omega), show i + k - n + n - k = i from by omega, Nat.mod_eq_of_lt hi]
theorem mod_there {n k j : Nat} (hj : j < n) (hk : k < n) : ((j + n - k) % n + k) % n = j := by
  by_cases h : j + n - k < n
  · rw [Nat.mod_eq_of_lt h, show j + n - k + k = j + n from by omega, Nat.add_mod_right, Nat.mod_eq_of_lt hj]
  · rw [show j + n - k = (j - k) + n from by omega, Nat.add_mod_right, Nat.mod_eq_of_lt (show j - k < n from by omega), show j - k + k = j from by omega, Nat.mod_eq_of_lt hj]
theorem turn_turn {g : Gr} {k : Nat} (hn : 0 < g.nodes.length) (hk : k < g.nodes.length) : Turn g (turnG k g) (turnN g.nodes.length k) := by
  have hin : ∀ c : Int, 0 ≤ c → c < g.nodes.length → turnN g.nodes.length k c = ((c.toNat + k) % g.nodes.length : Nat) := fun c h0 h1 => by
    obtain ⟨j, rfl⟩ : ∃ j : Nat, c = j := ⟨c.toNat, by omega⟩
    exact turnN_in (by omega)
  have hreal : ∀ c : Int, turnN g.nodes.length k c = turnN g.nodes.length k (real g.nodes.length c) := fun c => by
    by_cases h : c < 0 ∨ (g.nodes.length : Int) ≤ c
    · rw [real, if_pos h]
      unfold turnN
      rw [if_neg (by omega), if_neg (by omega)]
    · rw [real, if_neg h]
  refine ⟨by simp [turnG], by unfold turnN; rw [if_neg (by omega)], fun c h0 h1 => ?_, fun a b a0 a1 b0 b1 e => ?_, fun j m h0 hm => ?_, ?_⟩
  · rw [hin c h0 h1]
    have := Nat.mod_lt (c.toNat + k) hn
    omega
  · rw [hin a a0 a1, hin b b0 b1] at e
    have e' : (a.toNat + k) % g.nodes.length = (b.toNat + k) % g.nodes.length := by omega
    have : ((a.toNat + k) % g.nodes.length + g.nodes.length - k) % g.nodes.length = ((b.toNat + k) % g.nodes.length + g.nodes.length - k) % g.nodes.length := by rw [e']
    rw [mod_back (by omega) hk, mod_back (by omega) hk] at this
    omega
  · have hj : j.toNat < g.nodes.length := by
      rcases Nat.lt_or_ge j.toNat g.nodes.length with h | h
      · exact h
      · rw [List.getElem?_eq_none h] at hm; cases hm
    rw [hin j h0 (by omega), Int.toNat_natCast]
    have hml := Nat.mod_lt (j.toNat + k) hn
    simp only [turnG, List.getElem?_map, List.getElem?_range hml, Option.map_some]
    rw [mod_back hj hk, hm]
    simp only [Option.some.injEq]
    congr 1
    exact List.map_congr_left fun c _ => hreal c
  · simp only [turnG]
    exact List.map_congr_left fun c _ => hreal c
end Go.Proofs.Ythdbmbabfngakaa.G
