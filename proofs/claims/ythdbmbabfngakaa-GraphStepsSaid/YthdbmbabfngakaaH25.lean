/- Graphs: where a node leads, by definition, whatever the numbers. -/
import Derived.Test.YthdbmbabfngakaaH22
import Derived.Test.YthdbmbabfngakaaG9
namespace Go.Proofs.Ythdbmbabfngakaa.G
open Go Go.Eng Go.Proofs Go.Proofs.Ythdbmbabfngakaa.T Go.Proofs.Ythdbmbabfngakaa.K
set_option linter.unusedSimpArgs false
set_option linter.unusedVariables false
set_option maxRecDepth 100000
set_option maxHeartbeats 4000000
def rawL (nodes : List Nd) (m : Nd) : Int :=
  match m.kids with
  | [] => -1
  | to :: _ => if m.kind = kInd then (if (nodes.length : Int) ≤ to then -1 else to) else if m.kind ≠ kSel ∨ (nodes.length : Int) ≤ to ∨ to < 0 then -1 else
    match m.nons, nodes[to.toNat]? with
    | i :: _, some c => if c.kind ≠ kCon ∨ c.info ≠ m.info ∨ (c.kids.length : Int) ≤ i then -1 else (if (nodes.length : Int) ≤ (c.kids[i.toNat]?).getD (-1) then -1 else (c.kids[i.toNat]?).getD (-1))
    | _, _ => -1
theorem rawL_cl {g : Gr} {k : Int} {m : Nd} (h : nd g k = some m) : real g.nodes.length (rawL g.nodes m) = nx (cl g) k := by
  have hn : ∀ n : Nat, real n (-1) = -1 := fun n => by unfold real; rw [if_pos (by omega)]
  have hc := nx_nd (nd_map (f := real g.nodes.length) h)
  have e : nx (cl g) k = leadsN (cl g).nodes { m with kids := m.kids.map (real g.nodes.length) } := hc
  rw [e]
  unfold rawL leadsN
  have hcl : ∀ c : Int, real g.nodes.length (if (g.nodes.length : Int) ≤ c then -1 else c) = real g.nodes.length c := fun c => by
    by_cases hh : (g.nodes.length : Int) ≤ c
    · rw [if_pos hh, hn]; unfold real; rw [if_pos (.inr hh)]
    · rw [if_neg hh]
  cases hk : m.kids with
  | nil => exact hn _
  | cons t l =>
    simp only [List.map_cons]
    by_cases hi : m.kind = kInd
    · rw [if_pos hi, if_pos hi, hcl]
    rw [if_neg hi, if_neg hi]
    by_cases hb : m.kind ≠ kSel ∨ (g.nodes.length : Int) ≤ t ∨ t < 0
    · rw [if_pos hb, hn, if_pos]
      rcases hb with hb | hb
      · exact .inl hb
      · refine .inr ?_
        unfold real
        rw [if_pos (by omega)]
        decide
    rw [if_neg hb]
    have ht : real g.nodes.length t = t := real_in (Classical.byContradiction fun e => hb (.inr (.inr (by omega)))) (Classical.byContradiction fun e => hb (.inr (.inl (by omega))))
    rw [ht, if_neg (by rintro (h | h); exact hb (.inl h); exact hb (.inr (.inr h)))]
    cases hno : m.nons with
    | nil => exact hn _
    | cons i ns =>
      have e2 : (cl g).nodes[t.toNat]? = (g.nodes[t.toNat]?).map fun m => { m with kids := m.kids.map (real g.nodes.length) } := by simp [cl, mapN]
      rw [e2]
      cases hcn : g.nodes[t.toNat]? with
      | none => exact hn _
      | some c =>
        simp only [Option.map_some, List.length_map]
        by_cases hq : c.kind ≠ kCon ∨ c.info ≠ m.info ∨ (c.kids.length : Int) ≤ i
        · rw [if_pos hq, if_pos hq, hn]
        rw [if_neg hq, if_neg hq, hcl, List.getElem?_map]
        cases c.kids[i.toNat]? with
        | none => exact hn _
        | some f => rfl
theorem leadsRaw (F : PH) (ar av : Value) (g : Gr) (k : Int) (m : Nd) (h1 : ar.oneCell' = true) (ha : Nodes F av g.nodes) (hnons : ∀ m ∈ g.nodes, ∀ i ∈ m.nons, 0 ≤ i) (hkm : nd g k = some m) :
    PFn Try.prog 19 [.agg #[ar, av], .int .i64 k] F (fun v _ => v = .int .i64 (rawL g.nodes m)) := by
  have ha' := ha
  obtain ⟨pa, ca, rfl, hl1, hl2⟩ := ha.val
  obtain ⟨h0, hk, hmm, hgm⟩ := nd_pos hkm
  obtain ⟨i, rfl⟩ : ∃ i : Nat, k = i := ⟨k.toNat, by omega⟩
  have hi : i < g.nodes.length := by omega
  obtain ⟨q, _, cs, eq, _, _, kl, kr⟩ := ha'.elem (by decide) (i := i) (a := m) hgm RNd.len
  cases eq
  obtain ⟨vn, vk, rfl, ⟨pn, cn, rfl, _, _, hn3⟩, ⟨pk, ck, rfl, _, _, hk3⟩⟩ := kr
  refine Fn.intro (n := 83) (ts := [4]) Try.func19 rfl rfl rfl rfl (by simp) fun B hB => VC.go 100 ?_
  simp only [push_cast, ↓reduceIte, Nat.reduceEqDiff, Nat.reduceAdd, Nat.reduceMul, Nat.reduceSub, Nat.reduceLT, Nat.reduceLeDiff, reduceCtorEq, Nat.reduceMod, Int.reduceEq, Int.reduceLT, Int.reduceLE, Int.reduceToNat, dite_true, h1, hk, h0, kl]
  intro b2 b5
  cases hkk : m.kids with
  | nil =>
    have e0 : (m.kids.length : Int) = 0 := by rw [hkk]; rfl
    rw [show rawL g.nodes m = -1 from by unfold rawL; rw [hkk]]
    simp only [push_cast, ↓reduceIte, Nat.reduceEqDiff, Nat.reduceAdd, Nat.reduceMul, Nat.reduceSub, Nat.reduceLT, Nat.reduceLeDiff, reduceCtorEq, Nat.reduceMod, Int.reduceEq, Int.reduceLT, Int.reduceLE, Int.reduceToNat, dite_true, eq_true e0]
    exact RetOk.p rfl rfl
  | cons to rest =>
  rw [hkk] at hk3
  have ne : ¬ ((rest.length : Int) + 1 = 0) := by omega
  have lt0 : (0 : Int) < (rest.length : Int) + 1 := by omega
  obtain ⟨qk, rfl, hqk⟩ := hk3.elem1 (i := 0) (v := .int .i64 to) rfl
  by_cases hcl : (g.nodes.length : Int) ≤ to
  · by_cases hI : m.kind = kInd
    · have hI' : m.kind = 8 := hI
      rw [show rawL g.nodes m = -1 from by unfold rawL; rw [hkk]; exact (if_pos hI).trans (if_pos hcl)]
      simp only [push_cast, ↓reduceIte, Nat.reduceEqDiff, Nat.reduceAdd, Nat.reduceMul, Nat.reduceSub, Nat.reduceLT, Nat.reduceLeDiff, reduceCtorEq, Nat.reduceMod, Int.reduceEq, Int.reduceLT, Int.reduceLE, Int.reduceToNat, dite_true, hkk, ne, lt0, hqk, eq_true hcl, eq_true hI']
      exact RetOk.p rfl rfl
    have hI' : ¬ m.kind = 8 := hI
    rw [show rawL g.nodes m = -1 from by unfold rawL; rw [hkk]; exact (if_neg hI).trans (if_pos (.inr (.inl hcl)))]
    by_cases hS : m.kind = 7
    · simp only [push_cast, ↓reduceIte, Nat.reduceEqDiff, Nat.reduceAdd, Nat.reduceMul, Nat.reduceSub, Nat.reduceLT, Nat.reduceLeDiff, reduceCtorEq, Nat.reduceMod, Int.reduceEq, Int.reduceLT, Int.reduceLE, Int.reduceToNat, dite_true, hkk, ne, lt0, hqk, eq_true hcl, hI', eq_true hS]
      exact RetOk.p rfl rfl
    · simp only [push_cast, ↓reduceIte, Nat.reduceEqDiff, Nat.reduceAdd, Nat.reduceMul, Nat.reduceSub, Nat.reduceLT, Nat.reduceLeDiff, reduceCtorEq, Nat.reduceMod, Int.reduceEq, Int.reduceLT, Int.reduceLE, Int.reduceToNat, dite_true, hkk, ne, lt0, hqk, eq_true hcl, hI', hS]
      exact RetOk.p rfl rfl
  by_cases hI : m.kind = kInd
  · have hI' : m.kind = 8 := hI
    rw [show rawL g.nodes m = to from by unfold rawL; rw [hkk]; exact (if_pos hI).trans (if_neg hcl)]
    simp only [push_cast, ↓reduceIte, Nat.reduceEqDiff, Nat.reduceAdd, Nat.reduceMul, Nat.reduceSub, Nat.reduceLT, Nat.reduceLeDiff, reduceCtorEq, Nat.reduceMod, Int.reduceEq, Int.reduceLT, Int.reduceLE, Int.reduceToNat, dite_true, hkk, ne, lt0, hqk, hcl, eq_true hI']
    exact RetOk.p rfl rfl
  have hI' : ¬ m.kind = 8 := hI
  by_cases hS : m.kind = kSel
  case neg =>
    have hS' : ¬ m.kind = 7 := hS
    rw [show rawL g.nodes m = -1 from by unfold rawL; rw [hkk]; exact (if_neg hI).trans (if_pos (.inl hS))]
    simp only [push_cast, ↓reduceIte, Nat.reduceEqDiff, Nat.reduceAdd, Nat.reduceMul, Nat.reduceSub, Nat.reduceLT, Nat.reduceLeDiff, reduceCtorEq, Nat.reduceMod, Int.reduceEq, Int.reduceLT, Int.reduceLE, Int.reduceToNat, dite_true, hkk, ne, lt0, hqk, hcl, hI', hS']
    exact RetOk.p rfl rfl
  have hS' : m.kind = 7 := hS
  by_cases ht0 : to < 0
  · rw [show rawL g.nodes m = -1 from by unfold rawL; rw [hkk]; exact (if_neg hI).trans (if_pos (.inr (.inr ht0)))]
    simp only [push_cast, ↓reduceIte, Nat.reduceEqDiff, Nat.reduceAdd, Nat.reduceMul, Nat.reduceSub, Nat.reduceLT, Nat.reduceLeDiff, reduceCtorEq, Nat.reduceMod, Int.reduceEq, Int.reduceLT, Int.reduceLE, Int.reduceToNat, dite_true, hkk, ne, lt0, hqk, hcl, hI', eq_true hS', eq_true ht0]
    exact RetOk.p rfl rfl
  have ht0' : ¬ (m.kind ≠ kSel ∨ (g.nodes.length : Int) ≤ to ∨ to < 0) := by rintro (h | h | h); exact h hS; exact hcl h; exact ht0 h
  obtain ⟨j, rfl⟩ : ∃ j : Nat, to = j := ⟨to.toNat, by omega⟩
  have hj : j < g.nodes.length := by omega
  cases hnn : m.nons with
  | nil =>
    rw [show rawL g.nodes m = -1 from by unfold rawL; rw [hkk, hnn]; simp only [if_neg hI, if_neg ht0']]
    simp only [push_cast, ↓reduceIte, Nat.reduceEqDiff, Nat.reduceAdd, Nat.reduceMul, Nat.reduceSub, Nat.reduceLT, Nat.reduceLeDiff, reduceCtorEq, Nat.reduceMod, Int.reduceEq, Int.reduceLT, Int.reduceLE, Int.reduceToNat, dite_true, hkk, hnn, ne, lt0, hqk, hcl, hI', eq_true hS', ht0]
    exact RetOk.p rfl rfl
  | cons n0 nrest =>
  rw [hnn] at hn3
  have nne : ¬ ((nrest.length : Int) + 1 = 0) := by omega
  have nlt0 : (0 : Int) < (nrest.length : Int) + 1 := by omega
  have hn0 : 0 ≤ n0 := hnons m hmm n0 (by rw [hnn]; exact List.mem_cons_self)
  obtain ⟨qn, rfl, hqn⟩ := hn3.elem1 (i := 0) (v := .int .u64 n0) rfl
  obtain ⟨q2, _, cs2, eq2, _, _, kl2, kr2⟩ := ha'.elem (by decide) (i := j) (a := g.nodes[j]) (List.getElem?_eq_getElem hj) RNd.len
  cases eq2
  obtain ⟨c, hc⟩ : ∃ c, c = g.nodes[j] := ⟨_, rfl⟩
  have hcm : c ∈ g.nodes := by rw [hc]; exact List.getElem_mem hj
  rw [← hc] at kr2
  have hgj : g.nodes[((j : Nat) : Int).toNat]? = some c := by rw [hc]; exact List.getElem?_eq_getElem hj
  have hjl : (j : Int) < (g.nodes.length : Int) := by omega
  have hj0 : (0 : Int) ≤ (j : Int) := by omega
  obtain ⟨wn, wk, rfl, ⟨pn2, cn2, rfl, _⟩, ⟨pk2, ck2, rfl, hk21, hk22, hk23⟩⟩ := kr2
  have hwrap : IntKind.u64.wrap (c.kids.length : Int) = (c.kids.length : Int) := IntWalk.u64_in _ (by have := Nat.le_trans hk21 hk22; unfold maxLen at this; omega)
  have hlead : rawL g.nodes m = if c.kind ≠ kCon ∨ c.info ≠ m.info ∨ (c.kids.length : Int) ≤ n0 then -1 else (if (g.nodes.length : Int) ≤ (c.kids[n0.toNat]?).getD (-1) then -1 else (c.kids[n0.toNat]?).getD (-1)) := by
    unfold rawL; rw [hkk, hnn]; simp only [if_neg hI, if_neg ht0', hgj]
  by_cases hC : c.kind = kCon
  case neg =>
    have hC' : ¬ c.kind = 1 := hC
    rw [show rawL g.nodes m = -1 from by rw [hlead]; exact if_pos (.inl hC)]
    simp only [push_cast, ↓reduceIte, Nat.reduceEqDiff, Nat.reduceAdd, Nat.reduceMul, Nat.reduceSub, Nat.reduceLT, Nat.reduceLeDiff, reduceCtorEq, Nat.reduceMod, Int.reduceEq, Int.reduceLT, Int.reduceLE, Int.reduceToNat, dite_true, hkk, hnn, ne, lt0, hqk, hcl, hI', eq_true hS', ht0, nne, nlt0, hjl, hj0, kl2]
    intro b7
    refine VC.draw (.q 0 (.q 1 (.q 2 (.q 3 (.q 4 (.q 5 (.q 6 (.q 7 (.q 8 (.q 9 (.q 10 (.q 11 (.q 12 (.q 13 (.q 14 (.q 15 (.q 16 (.q 17 (.q 18 (.q 19 (.q 20 (.done)))))))))))))))))))))) mixed (by rfl) ?_
    simp only [push_cast, ↓reduceIte, Nat.reduceEqDiff, Nat.reduceAdd, Nat.reduceMul, Nat.reduceSub, Nat.reduceLT, Nat.reduceLeDiff, reduceCtorEq, Nat.reduceMod, Int.reduceEq, Int.reduceLT, Int.reduceLE, Int.reduceToNat, dite_true, hC']
    refine VC.go 100 ?_
    simp only [push_cast, ↓reduceIte, Nat.reduceEqDiff, Nat.reduceAdd, Nat.reduceMul, Nat.reduceSub, Nat.reduceLT, Nat.reduceLeDiff, reduceCtorEq, Nat.reduceMod, Int.reduceEq, Int.reduceLT, Int.reduceLE, Int.reduceToNat, dite_true]
    exact RetOk.p rfl rfl
  have hC' : c.kind = 1 := hC
  by_cases hF : c.info = m.info
  case neg =>
    rw [show rawL g.nodes m = -1 from by rw [hlead]; exact if_pos (.inr (.inl hF))]
    simp only [push_cast, ↓reduceIte, Nat.reduceEqDiff, Nat.reduceAdd, Nat.reduceMul, Nat.reduceSub, Nat.reduceLT, Nat.reduceLeDiff, reduceCtorEq, Nat.reduceMod, Int.reduceEq, Int.reduceLT, Int.reduceLE, Int.reduceToNat, dite_true, hkk, hnn, ne, lt0, hqk, hcl, hI', eq_true hS', ht0, nne, nlt0, hjl, hj0, kl2]
    intro b7
    refine VC.draw (.q 0 (.q 1 (.q 2 (.q 3 (.q 4 (.q 5 (.q 6 (.q 7 (.q 8 (.q 9 (.q 10 (.q 11 (.q 12 (.q 13 (.q 14 (.q 15 (.q 16 (.q 17 (.q 18 (.q 19 (.q 20 (.done)))))))))))))))))))))) mixed (by rfl) ?_
    simp only [push_cast, ↓reduceIte, Nat.reduceEqDiff, Nat.reduceAdd, Nat.reduceMul, Nat.reduceSub, Nat.reduceLT, Nat.reduceLeDiff, reduceCtorEq, Nat.reduceMod, Int.reduceEq, Int.reduceLT, Int.reduceLE, Int.reduceToNat, dite_true, eq_true hC', hF]
    refine VC.go 100 ?_
    simp only [push_cast, ↓reduceIte, Nat.reduceEqDiff, Nat.reduceAdd, Nat.reduceMul, Nat.reduceSub, Nat.reduceLT, Nat.reduceLeDiff, reduceCtorEq, Nat.reduceMod, Int.reduceEq, Int.reduceLT, Int.reduceLE, Int.reduceToNat, dite_true]
    exact RetOk.p rfl rfl
  by_cases hB' : (c.kids.length : Int) ≤ n0
  · rw [show rawL g.nodes m = -1 from by rw [hlead]; exact if_pos (.inr (.inr hB'))]
    simp only [push_cast, ↓reduceIte, Nat.reduceEqDiff, Nat.reduceAdd, Nat.reduceMul, Nat.reduceSub, Nat.reduceLT, Nat.reduceLeDiff, reduceCtorEq, Nat.reduceMod, Int.reduceEq, Int.reduceLT, Int.reduceLE, Int.reduceToNat, dite_true, hkk, hnn, ne, lt0, hqk, hcl, hI', eq_true hS', ht0, nne, nlt0, hjl, hj0, kl2]
    intro b7
    refine VC.draw (.q 0 (.q 1 (.q 2 (.q 3 (.q 4 (.q 5 (.q 6 (.q 7 (.q 8 (.q 9 (.q 10 (.q 11 (.q 12 (.q 13 (.q 14 (.q 15 (.q 16 (.q 17 (.q 18 (.q 19 (.q 20 (.done)))))))))))))))))))))) mixed (by rfl) ?_
    simp only [push_cast, ↓reduceIte, Nat.reduceEqDiff, Nat.reduceAdd, Nat.reduceMul, Nat.reduceSub, Nat.reduceLT, Nat.reduceLeDiff, reduceCtorEq, Nat.reduceMod, Int.reduceEq, Int.reduceLT, Int.reduceLE, Int.reduceToNat, dite_true, eq_true hC', eq_true hF, hnn, nlt0, hqn, hwrap, eq_true hB']
    refine VC.go 100 ?_
    simp only [push_cast, ↓reduceIte, Nat.reduceEqDiff, Nat.reduceAdd, Nat.reduceMul, Nat.reduceSub, Nat.reduceLT, Nat.reduceLeDiff, reduceCtorEq, Nat.reduceMod, Int.reduceEq, Int.reduceLT, Int.reduceLE, Int.reduceToNat, dite_true]
    exact RetOk.p rfl rfl
  obtain ⟨i0, rfl⟩ : ∃ i0 : Nat, n0 = i0 := ⟨n0.toNat, by omega⟩
  have hi0 : i0 < c.kids.length := by omega
  have hi0' : (i0 : Int) < (c.kids.length : Int) := by omega
  have hi00 : (0 : Int) ≤ (i0 : Int) := by omega
  obtain ⟨qk2, rfl, hqk2⟩ := hk23.elem1 (i := i0) (v := .int .i64 c.kids[i0]) (by simp [hi0])
  simp only [push_cast, ↓reduceIte, Nat.reduceEqDiff, Nat.reduceAdd, Nat.reduceMul, Nat.reduceSub, Nat.reduceLT, Nat.reduceLeDiff, reduceCtorEq, Nat.reduceMod, Int.reduceEq, Int.reduceLT, Int.reduceLE, Int.reduceToNat, dite_true, hkk, hnn, ne, lt0, hqk, hcl, hI', eq_true hS', ht0, nne, nlt0, hjl, hj0, kl2]
  intro b7
  refine VC.draw (.q 0 (.q 1 (.q 2 (.q 3 (.q 4 (.q 5 (.q 6 (.q 7 (.q 8 (.q 9 (.q 10 (.q 11 (.q 12 (.q 13 (.q 14 (.q 15 (.q 16 (.q 17 (.q 18 (.q 19 (.q 20 (.done)))))))))))))))))))))) mixed (by rfl) ?_
  simp only [push_cast, ↓reduceIte, Nat.reduceEqDiff, Nat.reduceAdd, Nat.reduceMul, Nat.reduceSub, Nat.reduceLT, Nat.reduceLeDiff, reduceCtorEq, Nat.reduceMod, Int.reduceEq, Int.reduceLT, Int.reduceLE, Int.reduceToNat, dite_true, eq_true hC', eq_true hF, hnn, nlt0, hqn, hwrap, hB']
  refine VC.go 100 ?_
  simp only [push_cast, ↓reduceIte, Nat.reduceEqDiff, Nat.reduceAdd, Nat.reduceMul, Nat.reduceSub, Nat.reduceLT, Nat.reduceLeDiff, reduceCtorEq, Nat.reduceMod, Int.reduceEq, Int.reduceLT, Int.reduceLE, Int.reduceToNat, dite_true]
  refine VC.draw (.q 0 (.q 1 (.q 2 (.q 3 (.q 4 (.q 5 (.q 6 (.q 7 (.q 8 (.done)))))))))) mixed (by rfl) ?_
  simp only [push_cast, ↓reduceIte, Nat.reduceEqDiff, Nat.reduceAdd, Nat.reduceMul, Nat.reduceSub, Nat.reduceLT, Nat.reduceLeDiff, reduceCtorEq, Nat.reduceMod, Int.reduceEq, Int.reduceLT, Int.reduceLE, Int.reduceToNat, dite_true, hnn, nlt0, hqn, hi0', hi00, hqk2]
  refine VC.go 100 ?_
  have hget : (c.kids[((i0 : Nat) : Int).toNat]?).getD (-1) = c.kids[i0] := by simp [hi0]
  by_cases hcl2 : (g.nodes.length : Int) ≤ c.kids[i0]
  · rw [show rawL g.nodes m = -1 from by
      rw [hlead, if_neg (by rintro (h | h | h); exact h hC; exact h hF; exact hB' h), hget, if_pos hcl2]]
    simp only [push_cast, ↓reduceIte, Nat.reduceEqDiff, Nat.reduceAdd, Nat.reduceMul, Nat.reduceSub, Nat.reduceLT, Nat.reduceLeDiff, reduceCtorEq, Nat.reduceMod, Int.reduceEq, Int.reduceLT, Int.reduceLE, Int.reduceToNat, dite_true, eq_true hcl2]
    exact RetOk.p rfl rfl
  rw [show rawL g.nodes m = c.kids[i0] from by
    rw [hlead, if_neg (by rintro (h | h | h); exact h hC; exact h hF; exact hB' h), hget, if_neg hcl2]]
  simp only [push_cast, ↓reduceIte, Nat.reduceEqDiff, Nat.reduceAdd, Nat.reduceMul, Nat.reduceSub, Nat.reduceLT, Nat.reduceLeDiff, reduceCtorEq, Nat.reduceMod, Int.reduceEq, Int.reduceLT, Int.reduceLE, Int.reduceToNat, dite_true, hcl2]
  exact RetOk.p rfl rfl
end Go.Proofs.Ythdbmbabfngakaa.G
