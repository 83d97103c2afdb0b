/- Graphs: where a node leads. -/
import Derived.Test.YthdbmbabfngakaaH6
namespace Go.Proofs.Ythdbmbabfngakaa.G
open Go Go.Eng Go.Proofs Go.Proofs.Ythdbmbabfngakaa.T Go.Proofs.Ythdbmbabfngakaa.K
set_option linter.unusedSimpArgs false
set_option linter.unusedVariables false
set_option maxRecDepth 100000
set_option maxHeartbeats 4000000
theorem leadsG (F : PH) (ar av : Value) (g : Gr) (k : Int) (h1 : ar.oneCell' = true) (ha : Nodes F av g.nodes) (hs : Small g) (h0 : 0 ≤ k) (hk : k < g.nodes.length) :
    PFn Try.prog 27 [.agg #[ar, av], .int .i64 k] F (fun v _ => v = .int .i64 (nx g k)) := by
  have ha' := ha
  obtain ⟨pa, ca, rfl, hl1, hl2⟩ := ha.val
  obtain ⟨i, rfl⟩ : ∃ i : Nat, k = i := ⟨k.toNat, by omega⟩
  have hi : i < g.nodes.length := by omega
  obtain ⟨q, _, cs, eq, _, _, kl, kr⟩ := ha'.elem (by decide) (i := i) (a := g.nodes[i]) (List.getElem?_eq_getElem hi) RNd.len
  cases eq
  rw [nx_at h0 (List.getElem?_eq_getElem hi)]
  obtain ⟨m, hm⟩ : ∃ m, m = g.nodes[i] := ⟨_, rfl⟩
  have hmm : m ∈ g.nodes := by rw [hm]; exact List.getElem_mem hi
  rw [← hm] at kr
  rw [show (fun (v : Value) (_ : PH) => v = Value.int .i64 (leadsN g.nodes g.nodes[i])) = fun v _ => v = Value.int .i64 (leadsN g.nodes m) from by rw [hm]]
  obtain ⟨vn, vk, rfl, ⟨pn, cn, rfl, _, _, hn3⟩, ⟨pk, ck, rfl, _, _, hk3⟩⟩ := kr
  refine Fn.intro (n := 77) (ts := [4]) Try.func27 rfl rfl rfl rfl (by simp) fun B hB => VC.go 100 ?_
  simp only [push_cast, ↓reduceIte, Nat.reduceEqDiff, Nat.reduceAdd, Nat.reduceMul, Nat.reduceSub, Nat.reduceLT, Nat.reduceLeDiff, reduceCtorEq, Nat.reduceMod, Int.reduceEq, Int.reduceLT, Int.reduceLE, Int.reduceToNat, dite_true, h1, hk, h0, kl]
  intro b2 b5
  cases hkk : m.kids with
  | nil =>
    have e0 : (m.kids.length : Int) = 0 := by rw [hkk]; rfl
    rw [show leadsN g.nodes m = -1 from by unfold leadsN; rw [hkk]]
    by_cases hI : m.kind = 8
    · simp only [push_cast, ↓reduceIte, Nat.reduceEqDiff, Nat.reduceAdd, Nat.reduceMul, Nat.reduceSub, Nat.reduceLT, Nat.reduceLeDiff, reduceCtorEq, Nat.reduceMod, Int.reduceEq, Int.reduceLT, Int.reduceLE, Int.reduceToNat, dite_true, eq_true hI, hkk]
      exact RetOk.p rfl rfl
    · by_cases hS : m.kind = 7
      · simp only [push_cast, ↓reduceIte, Nat.reduceEqDiff, Nat.reduceAdd, Nat.reduceMul, Nat.reduceSub, Nat.reduceLT, Nat.reduceLeDiff, reduceCtorEq, Nat.reduceMod, Int.reduceEq, Int.reduceLT, Int.reduceLE, Int.reduceToNat, dite_true, hI, eq_true hS, hkk]
        exact RetOk.p rfl rfl
      · simp only [push_cast, ↓reduceIte, Nat.reduceEqDiff, Nat.reduceAdd, Nat.reduceMul, Nat.reduceSub, Nat.reduceLT, Nat.reduceLeDiff, reduceCtorEq, Nat.reduceMod, Int.reduceEq, Int.reduceLT, Int.reduceLE, Int.reduceToNat, dite_true, hI, hS, hkk]
        exact RetOk.p rfl rfl
  | cons to rest =>
  rw [hkk] at hk3
  have hto := hs.kids m hmm to (by rw [hkk]; exact List.mem_cons_self)
  have ne : ¬ ((rest.length : Int) + 1 = 0) := by omega
  have lt0 : (0 : Int) < (rest.length : Int) + 1 := by omega
  obtain ⟨qk, rfl, hqk⟩ := hk3.elem1 (i := 0) (v := .int .i64 to) rfl
  by_cases hI : m.kind = kInd
  · have hI' : m.kind = 8 := hI
    rw [show leadsN g.nodes m = to from by unfold leadsN; rw [hkk]; exact if_pos hI]
    simp only [push_cast, ↓reduceIte, Nat.reduceEqDiff, Nat.reduceAdd, Nat.reduceMul, Nat.reduceSub, Nat.reduceLT, Nat.reduceLeDiff, reduceCtorEq, Nat.reduceMod, Int.reduceEq, Int.reduceLT, Int.reduceLE, Int.reduceToNat, dite_true, hkk, ne, lt0, hqk, eq_true hI']
    exact RetOk.p rfl rfl
  have hI' : ¬ m.kind = 8 := hI
  by_cases hS : m.kind = kSel
  case neg =>
    have hS' : ¬ m.kind = 7 := hS
    rw [show leadsN g.nodes m = -1 from by unfold leadsN; rw [hkk]; exact (if_neg hI).trans (if_pos (.inl hS))]
    simp only [push_cast, ↓reduceIte, Nat.reduceEqDiff, Nat.reduceAdd, Nat.reduceMul, Nat.reduceSub, Nat.reduceLT, Nat.reduceLeDiff, reduceCtorEq, Nat.reduceMod, Int.reduceEq, Int.reduceLT, Int.reduceLE, Int.reduceToNat, dite_true, hkk, ne, lt0, hqk, hI', hS']
    exact RetOk.p rfl rfl
  have hS' : m.kind = 7 := hS
  by_cases ht0 : to < 0
  · rw [show leadsN g.nodes m = -1 from by unfold leadsN; rw [hkk]; exact (if_neg hI).trans (if_pos (.inr ht0))]
    simp only [push_cast, ↓reduceIte, Nat.reduceEqDiff, Nat.reduceAdd, Nat.reduceMul, Nat.reduceSub, Nat.reduceLT, Nat.reduceLeDiff, reduceCtorEq, Nat.reduceMod, Int.reduceEq, Int.reduceLT, Int.reduceLE, Int.reduceToNat, dite_true, hkk, ne, lt0, hqk, hI', eq_true hS', eq_true ht0]
    exact RetOk.p rfl rfl
  have ht0' : ¬ (m.kind ≠ kSel ∨ to < 0) := by rintro (h | h); exact h hS; exact ht0 h
  obtain ⟨j, rfl⟩ : ∃ j : Nat, to = j := ⟨to.toNat, by omega⟩
  have hj : j < g.nodes.length := by omega
  obtain ⟨q2, _, cs2, eq2, _, _, kl2, kr2⟩ := ha'.elem (by decide) (i := j) (a := g.nodes[j]) (List.getElem?_eq_getElem hj) RNd.len
  cases eq2
  obtain ⟨c, hc⟩ : ∃ c, c = g.nodes[j] := ⟨_, rfl⟩
  have hcm : c ∈ g.nodes := by rw [hc]; exact List.getElem_mem hj
  rw [← hc] at kr2
  have hgj : g.nodes[((j : Nat) : Int).toNat]? = some c := by rw [hc]; exact List.getElem?_eq_getElem hj
  have hjl : (j : Int) < (g.nodes.length : Int) := by omega
  have hj0 : (0 : Int) ≤ (j : Int) := by omega
  obtain ⟨wn, wk, rfl, ⟨pn2, cn2, rfl, _⟩, ⟨pk2, ck2, rfl, hk21, hk22, hk23⟩⟩ := kr2
  simp only [push_cast, ↓reduceIte, Nat.reduceEqDiff, Nat.reduceAdd, Nat.reduceMul, Nat.reduceSub, Nat.reduceLT, Nat.reduceLeDiff, reduceCtorEq, Nat.reduceMod, Int.reduceEq, Int.reduceLT, Int.reduceLE, Int.reduceToNat, dite_true, hkk, ne, lt0, hqk, hI', eq_true hS', ht0, hjl, hj0, kl2]
  intro b7
  refine VC.draw (.q 0 (.q 1 (.q 2 (.q 3 (.q 4 (.q 5 (.q 6 (.q 7 (.q 8 (.q 9 (.q 10 (.q 11 (.q 12 (.q 13 (.q 14 (.q 15 (.q 16 (.q 17 (.q 18 (.q 19 (.q 20 (.q 21 (.q 22 (.q 23 (.q 24 (.q 25 (.q 26 (.done)))))))))))))))))))))))))))) mixed (by rfl) ?_
  cases hnn : m.nons with
  | nil =>
    rw [show leadsN g.nodes m = -1 from by unfold leadsN; rw [hkk, hnn]; simp only [if_neg hI, if_neg ht0']]
    simp only [push_cast, ↓reduceIte, Nat.reduceEqDiff, Nat.reduceAdd, Nat.reduceMul, Nat.reduceSub, Nat.reduceLT, Nat.reduceLeDiff, reduceCtorEq, Nat.reduceMod, Int.reduceEq, Int.reduceLT, Int.reduceLE, Int.reduceToNat, dite_true, hnn]
    refine VC.go 100 ?_
    simp only [push_cast, ↓reduceIte, Nat.reduceEqDiff, Nat.reduceAdd, Nat.reduceMul, Nat.reduceSub, Nat.reduceLT, Nat.reduceLeDiff, reduceCtorEq, Nat.reduceMod, Int.reduceEq, Int.reduceLT, Int.reduceLE, Int.reduceToNat, dite_true]
    exact RetOk.p rfl rfl
  | cons n0 nrest =>
  rw [hnn] at hn3
  have nne : ¬ ((nrest.length : Int) + 1 = 0) := by omega
  have nlt0 : (0 : Int) < (nrest.length : Int) + 1 := by omega
  have hn0 : 0 ≤ n0 := hs.nons m hmm n0 (by rw [hnn]; exact List.mem_cons_self)
  obtain ⟨qn, rfl, hqn⟩ := hn3.elem1 (i := 0) (v := .int .u64 n0) rfl
  have hwrap : IntKind.u64.wrap (c.kids.length : Int) = (c.kids.length : Int) := IntWalk.u64_in _ (by have := Nat.le_trans hk21 hk22; unfold maxLen at this; omega)
  have hlead : leadsN g.nodes m = if c.kind ≠ kCon ∨ c.info ≠ m.info ∨ (c.kids.length : Int) ≤ n0 then -1 else (c.kids[n0.toNat]?).getD (-1) := by
    unfold leadsN; rw [hkk, hnn]; simp only [if_neg hI, if_neg ht0', hgj]
  by_cases hC : c.kind = kCon
  case neg =>
    have hC' : ¬ c.kind = 1 := hC
    rw [show leadsN g.nodes m = -1 from by rw [hlead]; exact if_pos (.inl hC)]
    simp only [push_cast, ↓reduceIte, Nat.reduceEqDiff, Nat.reduceAdd, Nat.reduceMul, Nat.reduceSub, Nat.reduceLT, Nat.reduceLeDiff, reduceCtorEq, Nat.reduceMod, Int.reduceEq, Int.reduceLT, Int.reduceLE, Int.reduceToNat, dite_true, hnn, nne, hC']
    refine VC.go 100 ?_
    simp only [push_cast, ↓reduceIte, Nat.reduceEqDiff, Nat.reduceAdd, Nat.reduceMul, Nat.reduceSub, Nat.reduceLT, Nat.reduceLeDiff, reduceCtorEq, Nat.reduceMod, Int.reduceEq, Int.reduceLT, Int.reduceLE, Int.reduceToNat, dite_true]
    exact RetOk.p rfl rfl
  have hC' : c.kind = 1 := hC
  by_cases hF : c.info = m.info
  case neg =>
    rw [show leadsN g.nodes m = -1 from by rw [hlead]; exact if_pos (.inr (.inl hF))]
    simp only [push_cast, ↓reduceIte, Nat.reduceEqDiff, Nat.reduceAdd, Nat.reduceMul, Nat.reduceSub, Nat.reduceLT, Nat.reduceLeDiff, reduceCtorEq, Nat.reduceMod, Int.reduceEq, Int.reduceLT, Int.reduceLE, Int.reduceToNat, dite_true, hnn, nne, eq_true hC', hF]
    refine VC.go 100 ?_
    simp only [push_cast, ↓reduceIte, Nat.reduceEqDiff, Nat.reduceAdd, Nat.reduceMul, Nat.reduceSub, Nat.reduceLT, Nat.reduceLeDiff, reduceCtorEq, Nat.reduceMod, Int.reduceEq, Int.reduceLT, Int.reduceLE, Int.reduceToNat, dite_true]
    exact RetOk.p rfl rfl
  by_cases hB' : (c.kids.length : Int) ≤ n0
  · rw [show leadsN g.nodes m = -1 from by rw [hlead]; exact if_pos (.inr (.inr hB'))]
    simp only [push_cast, ↓reduceIte, Nat.reduceEqDiff, Nat.reduceAdd, Nat.reduceMul, Nat.reduceSub, Nat.reduceLT, Nat.reduceLeDiff, reduceCtorEq, Nat.reduceMod, Int.reduceEq, Int.reduceLT, Int.reduceLE, Int.reduceToNat, dite_true, hnn, nne, nlt0, hqn, eq_true hC', eq_true hF, hwrap, eq_true hB']
    refine VC.go 100 ?_
    simp only [push_cast, ↓reduceIte, Nat.reduceEqDiff, Nat.reduceAdd, Nat.reduceMul, Nat.reduceSub, Nat.reduceLT, Nat.reduceLeDiff, reduceCtorEq, Nat.reduceMod, Int.reduceEq, Int.reduceLT, Int.reduceLE, Int.reduceToNat, dite_true]
    exact RetOk.p rfl rfl
  obtain ⟨i0, rfl⟩ : ∃ i0 : Nat, n0 = i0 := ⟨n0.toNat, by omega⟩
  have hi0 : i0 < c.kids.length := by omega
  have hi0' : (i0 : Int) < (c.kids.length : Int) := by omega
  have hi00 : (0 : Int) ≤ (i0 : Int) := by omega
  obtain ⟨qk2, rfl, hqk2⟩ := hk23.elem1 (i := i0) (v := .int .i64 c.kids[i0]) (by simp [hi0])
  rw [show leadsN g.nodes m = c.kids[i0] from by
    rw [hlead, if_neg (by rintro (h | h | h); exact h hC; exact h hF; exact hB' h)]
    simp [hi0]]
  simp only [push_cast, ↓reduceIte, Nat.reduceEqDiff, Nat.reduceAdd, Nat.reduceMul, Nat.reduceSub, Nat.reduceLT, Nat.reduceLeDiff, reduceCtorEq, Nat.reduceMod, Int.reduceEq, Int.reduceLT, Int.reduceLE, Int.reduceToNat, dite_true, hnn, nne, nlt0, hqn, eq_true hC', eq_true hF, hwrap, hB']
  refine VC.go 100 ?_
  simp only [push_cast, ↓reduceIte, Nat.reduceEqDiff, Nat.reduceAdd, Nat.reduceMul, Nat.reduceSub, Nat.reduceLT, Nat.reduceLeDiff, reduceCtorEq, Nat.reduceMod, Int.reduceEq, Int.reduceLT, Int.reduceLE, Int.reduceToNat, dite_true]
  refine VC.draw (.q 0 (.q 1 (.q 2 (.q 3 (.q 4 (.q 5 (.q 6 (.q 7 (.q 8 (.done)))))))))) mixed (by rfl) ?_
  simp only [push_cast, ↓reduceIte, Nat.reduceEqDiff, Nat.reduceAdd, Nat.reduceMul, Nat.reduceSub, Nat.reduceLT, Nat.reduceLeDiff, reduceCtorEq, Nat.reduceMod, Int.reduceEq, Int.reduceLT, Int.reduceLE, Int.reduceToNat, dite_true, hnn, nlt0, hqn, hi0', hi00, hqk2]
  refine VC.go 100 ?_
  simp only [push_cast, ↓reduceIte, Nat.reduceEqDiff, Nat.reduceAdd, Nat.reduceMul, Nat.reduceSub, Nat.reduceLT, Nat.reduceLeDiff, reduceCtorEq, Nat.reduceMod, Int.reduceEq, Int.reduceLT, Int.reduceLE, Int.reduceToNat, dite_true]
  exact RetOk.p rfl rfl
end Go.Proofs.Ythdbmbabfngakaa.G
