/- Graphs: the law that what is short stays so. -/
import Derived.Test.YthdbmbabfngakaaH21
namespace Go.Proofs.Ythdbmbabfngakaa.G
open Go Go.Eng Go.Proofs Go.Proofs.Ythdbmbabfngakaa.T Go.Proofs.Ythdbmbabfngakaa.K
set_option linter.unusedSimpArgs false
set_option linter.unusedVariables false
set_option maxRecDepth 100000
set_option maxHeartbeats 4000000
/-- How large at most. -/
structure Sz (a b c : Nat) (g : Gr) : Prop where
  roots : g.roots.length ≤ a
  nodes : g.nodes.length ≤ b
  kids : ∀ m ∈ g.nodes, m.kids.length ≤ c
section
variable {a b c : Nat} {g : Gr}
theorem Sz.few (g : Gr) : Sz 60 60 20 (few g) := by
  refine ⟨by simp only [G.few, List.length_take]; omega, by simp only [G.few, List.length_map, List.length_take]; omega, fun m hm => ?_⟩
  simp only [G.few] at hm
  obtain ⟨m', h1, rfl⟩ := List.mem_map.1 hm
  simp only [fewNd, List.length_take]; omega
theorem Sz.norm (h : Sz a b c g) : Sz a b c (norm g) := by
  refine ⟨by simp only [G.norm, List.length_map]; exact h.roots, by rw [norm_len]; exact Nat.le_trans (order_met g).len h.nodes, fun m hm => ?_⟩
  obtain ⟨m', h1, h2, h3⟩ := norm_mem hm; rw [h2]; exact h.kids m' h1
theorem Sz.round (h : Sz a b c g) : Sz a b c (round g) := by
  refine ⟨by simp only [G.round, List.length_map]; exact h.roots, by rw [round_len]; exact h.nodes, fun m hm => ?_⟩
  simp only [G.round] at hm
  obtain ⟨m', hm', rfl⟩ := List.mem_map.1 hm
  simpa using h.kids m' hm'
theorem Sz.rounds : ∀ (k : Nat) {g : Gr}, Sz a b c g → Sz a b c (rounds k g)
  | 0, g, h => h
  | k + 1, g, h => by
    rw [G.rounds]
    split
    · exact h
    · exact Sz.rounds k h.round
theorem Sz.short (h : Sz a b c g) : Sz a b c (short g) := (Sz.rounds _ h.norm).norm
theorem Okg.rounds : ∀ (k : Nat) {g : Gr}, Okg g → Okg (rounds k g)
  | 0, g, h => h
  | k + 1, g, h => by
    rw [G.rounds]
    split
    · exact h
    · exact Okg.rounds k h.round
theorem Okg.short (h : Okg g) : Okg (short g) := (Okg.rounds _ h.norm).norm
end
/-- All numbers of a graph: of its roots, and of its first nodes' Kids. -/
def allOf (g : Gr) (i : Nat) : List Int := g.roots ++ (g.nodes.take i).flatMap Nd.kids
theorem allOf_succ (g : Gr) {i : Nat} (h : i < g.nodes.length) : allOf g (i + 1) = allOf g i ++ g.nodes[i].kids := by
  simp only [allOf, List.take_succ_eq_append_getElem h, List.flatMap_append, List.append_assoc]
  simp
theorem allOf_len {a b c : Nat} {g : Gr} (h : Sz a b c g) : ∀ i, (allOf g i).length ≤ a + i * c
  | 0 => by simpa [allOf] using h.roots
  | i + 1 => by
    by_cases hi : i < g.nodes.length
    · rw [allOf_succ g hi, List.length_append, Nat.succ_mul]
      have := allOf_len h i
      have := h.kids _ (List.getElem_mem hi)
      omega
    · have e : allOf g (i + 1) = allOf g i := by simp only [allOf, List.take_of_length_le (show g.nodes.length ≤ i from by omega), List.take_of_length_le (show g.nodes.length ≤ i + 1 from by omega)]
      have := allOf_len h i
      rw [e, Nat.succ_mul]
      omega
theorem allOf_mem {g : Gr} {x : Int} {i : Nat} (h : x ∈ allOf g i) : x ∈ g.roots ∨ ∃ m ∈ g.nodes, x ∈ m.kids := by
  rcases List.mem_append.1 h with h | h
  · exact .inl h
  · obtain ⟨m, h1, h2⟩ := List.mem_flatMap.1 h
    exact .inr ⟨m, List.mem_of_mem_take h1, h2⟩
theorem law_twice (F : PH) (vg : Value) (g : Gr) (hg : Gra F vg g) (hn : OkN g) : PFn Try.prog 6 [vg] F (fun v _ => v = .bool true) := by
  have hok := okg_few hn
  have hg' := hg
  obtain ⟨p, c, q, d, rfl⟩ := hg.val
  obtain ⟨s, hs⟩ : ∃ s, s = short (few g) := ⟨_, rfl⟩
  have hsok : Okg s := hs ▸ hok.short
  have hsz : Sz 60 60 20 s := hs ▸ (Sz.few g).short
  have hss : short s = s := by rw [hs]; exact short_short hok.nat
  have hsn : norm s = s := by rw [hs]; exact short_norm _
  have hst : ∀ x, (x ∈ s.roots ∨ ∃ m ∈ s.nodes, x ∈ m.kids) → Two s.nodes.length x ∧ (0 ≤ x → nx s x < 0) := fun x hx => by rw [hs] at hx ⊢; exact short_stays hok.nat hx
  have hsm : Small s := by rw [← hsn]; exact norm_small hsok.nat
  refine Fn.intro (n := 75) (ts := [2]) Try.func6 rfl rfl rfl rfl (by simp) fun B hB => VC.go 100 ?_
  simp only [push_cast, ↓reduceIte, Nat.reduceEqDiff, Nat.reduceAdd, Nat.reduceMul, Nat.reduceSub, Nat.reduceLT, Nat.reduceLeDiff, reduceCtorEq, Nat.reduceMod, Int.reduceEq, Int.reduceLT, Int.reduceLE, Int.reduceToNat, dite_true]
  intro b1
  refine CallV.pure (fewL F _ g hg') ?_
  intro v F1 hF1 hf
  obtain ⟨p1, c1, q1, d1, rfl⟩ := hf.val
  simp only [push_cast, ↓reduceIte, Nat.reduceEqDiff, Nat.reduceAdd, Nat.reduceMul, Nat.reduceSub, Nat.reduceLT, Nat.reduceLeDiff, reduceCtorEq, Nat.reduceMod, Int.reduceEq, Int.reduceLT, Int.reduceLE, Int.reduceToNat, dite_true]
  refine CallV.pure (shortF F1 _ _ hf hok) ?_
  intro v F2 hF2 h2
  rw [← hs] at h2
  obtain ⟨p2, c2, q2, d2, rfl⟩ := h2.val
  have hnd : Nodes F2 (.slice q2 s.nodes.length d2) s.nodes := by
    obtain ⟨_, _, e, _, h⟩ := h2
    cases e; exact h
  have hrt : Ints F2 (.slice p2 s.roots.length c2) s.roots := by
    obtain ⟨_, _, e, h, _⟩ := h2
    cases e; exact h
  obtain ⟨_, _, e3, hr1, hr2, hr3⟩ := hrt
  cases e3
  obtain ⟨_, _, e4, hn1, hn2⟩ := hnd.val
  cases e4
  simp only [push_cast, ↓reduceIte, Nat.reduceEqDiff, Nat.reduceAdd, Nat.reduceMul, Nat.reduceSub, Nat.reduceLT, Nat.reduceLeDiff, reduceCtorEq, Nat.reduceMod, Int.reduceEq, Int.reduceLT, Int.reduceLE, Int.reduceToNat, dite_true]
  intro b3
  refine VC.draw (.e 0 (.q 1 (.q 2 (.q 3 (.q 5 (.e 4 (.e 6 (.q 7 (.q 8 (.q 9 (.q 10 (.q 12 (.e 11 (.e 13 (.q 14 (.q 15 (.done))))))))))))))))) mixed (by rfl) ?_
  simp only [push_cast, ↓reduceIte, Nat.reduceEqDiff, Nat.reduceAdd, Nat.reduceMul, Nat.reduceSub, Nat.reduceLT, Nat.reduceLeDiff, reduceCtorEq, Nat.reduceMod, Int.reduceEq, Int.reduceLT, Int.reduceLE, Int.reduceToNat, dite_true]
  refine CallV.pure (awakeL F2) ?_
  rintro _ F3 hF3 rfl
  simp only [push_cast, ↓reduceIte, Nat.reduceEqDiff, Nat.reduceAdd, Nat.reduceMul, Nat.reduceSub, Nat.reduceLT, Nat.reduceLeDiff, reduceCtorEq, Nat.reduceMod, Int.reduceEq, Int.reduceLT, Int.reduceLE, Int.reduceToNat, dite_true]
  refine CallV.pure (shortF F3 _ _ (h2.mono hF3) hsok) ?_
  intro v4 F4 hF4 h4
  rw [hss] at h4
  have hF24 := PH.le_trans hF3 hF4
  simp only [push_cast, ↓reduceIte, Nat.reduceEqDiff, Nat.reduceAdd, Nat.reduceMul, Nat.reduceSub, Nat.reduceLT, Nat.reduceLeDiff, reduceCtorEq, Nat.reduceMod, Int.reduceEq, Int.reduceLT, Int.reduceLE, Int.reduceToNat, dite_true]
  refine CallV.pure (sameL F4 _ _ _ _ h4 (h2.mono hF24)) ?_
  rintro _ F5 hF5 rfl
  rw [sameGr_refl]
  have hF25 := PH.le_trans hF24 hF5
  simp only [push_cast, ↓reduceIte, Nat.reduceEqDiff, Nat.reduceAdd, Nat.reduceMul, Nat.reduceSub, Nat.reduceLT, Nat.reduceLeDiff, reduceCtorEq, Nat.reduceMod, Int.reduceEq, Int.reduceLT, Int.reduceLE, Int.reduceToNat, dite_true]
  refine CallV.pure (normF F5 _ _ (h2.mono hF25) hsok) ?_
  intro v6 F6 hF6 h6
  rw [hsn] at h6
  have hF26 := PH.le_trans hF25 hF6
  simp only [push_cast, ↓reduceIte, Nat.reduceEqDiff, Nat.reduceAdd, Nat.reduceMul, Nat.reduceSub, Nat.reduceLT, Nat.reduceLeDiff, reduceCtorEq, Nat.reduceMod, Int.reduceEq, Int.reduceLT, Int.reduceLE, Int.reduceToNat, dite_true]
  refine CallV.pure (sameL F6 _ _ _ _ h6 (h2.mono hF26)) ?_
  rintro _ F7 hF7 rfl
  rw [sameGr_refl]
  have hF27 := PH.le_trans hF26 hF7
  simp only [push_cast, ↓reduceIte, Nat.reduceEqDiff, Nat.reduceAdd, Nat.reduceMul, Nat.reduceSub, Nat.reduceLT, Nat.reduceLeDiff, reduceCtorEq, Nat.reduceMod, Int.reduceEq, Int.reduceLT, Int.reduceLE, Int.reduceToNat, dite_true]
  refine VC.go 100 ?_
  simp only [push_cast, ↓reduceIte, Nat.reduceEqDiff, Nat.reduceAdd, Nat.reduceMul, Nat.reduceSub, Nat.reduceLT, Nat.reduceLeDiff, reduceCtorEq, Nat.reduceMod, Int.reduceEq, Int.reduceLT, Int.reduceLE, Int.reduceToNat, dite_true]
  intro b26
  refine Eff.append (xs := []) rfl rfl rfl ty22 rfl ty3 rfl (by decide) rfl rfl (List.Perm.refl _) (Row.begin _ _ _) (hr3.mono hF27) (by simp [Value.oneCell']) (by have := hsz.roots; simp; omega) (by decide) ?_
  intro va ra hra
  rw [List.nil_append] at hra
  simp only [push_cast, ↓reduceIte, Nat.reduceEqDiff, Nat.reduceAdd, Nat.reduceMul, Nat.reduceSub, Nat.reduceLT, Nat.reduceLeDiff, reduceCtorEq, Nat.reduceMod, Int.reduceEq, Int.reduceLT, Int.reduceLE, Int.reduceToNat, dite_true]
  refine VC.loopR (ι := Nat × Value × PH) (fun i => [(5, .v (.int .i64 i.1)), (4, .v i.2.1), (3, .o 1 b3 0)]) (fun _ => F7) (fun i => i.2.2) [] (fun i => i.1 ≤ s.nodes.length ∧ Row i.2.2 3 1 i.2.1 ((allOf s i.1).map (.int .i64))) (fun i => s.nodes.length - i.1) (0, va, ra) ⟨Nat.zero_le _, by simpa [allOf] using hra⟩ (by simp [subk, Eng.look]) rfl rfl ?_
  rintro ⟨i, vi, ri⟩ ⟨hi, hri⟩ G hG
  dsimp only at hi hri hG ⊢
  obtain ⟨pi, mi, ci, rfl, hmi, _⟩ := hri.len
  have hal := allOf_len hsz i
  by_cases h : i < s.nodes.length
  · have h' : (i : Int) < (s.nodes.length : Int) := by omega
    have h0 : (0 : Int) ≤ (i : Int) := by omega
    have ew : IntKind.i64.wrap ((i : Int) + 1) = ((i + 1 : Nat) : Int) := wadd i h (Nat.le_trans hn1 hn2)
    obtain ⟨q, _, cs, eq, _, _, kl, kr⟩ := (hnd.mono hF27).elem (by decide) (i := i) (a := s.nodes[i]) (List.getElem?_eq_getElem h) RNd.len
    cases eq
    obtain ⟨un, uk, rfl, _, huk⟩ := kr
    obtain ⟨puk, cuk, rfl, huk1, huk2, huk3⟩ := huk
    have k3 := cell_at kl (o := 3) rfl
    have hkl := hsz.kids _ (List.getElem_mem h)
    have hsn' := hsz.nodes
    refine VC.go 100 ?_
    simp only [push_cast, ↓reduceIte, Nat.reduceEqDiff, Nat.reduceAdd, Nat.reduceMul, Nat.reduceSub, Nat.reduceLT, Nat.reduceLeDiff, reduceCtorEq, Nat.reduceMod, Int.reduceEq, Int.reduceLT, Int.reduceLE, Int.reduceToNat, dite_true, h', h0, k3]
    refine Eff.append rfl rfl rfl ty22 rfl ty3 rfl (by decide) rfl rfl (List.Perm.refl _) hri huk3 (by simp [Value.oneCell']) (by simp; omega) (by decide) ?_
    intro v8 r8 hr8
    rw [← List.map_append, ← allOf_succ s h] at hr8
    simp only [push_cast, ↓reduceIte, Nat.reduceEqDiff, Nat.reduceAdd, Nat.reduceMul, Nat.reduceSub, Nat.reduceLT, Nat.reduceLeDiff, reduceCtorEq, Nat.reduceMod, Int.reduceEq, Int.reduceLT, Int.reduceLE, Int.reduceToNat, dite_true, ew]
    exact hG (i + 1, v8, r8) _ ⟨h, hr8⟩ (by simp; omega) (by simp [subk, Eng.look]) (by simp) rfl rfl
  have h' : ¬ (i : Int) < (s.nodes.length : Int) := by omega
  obtain rfl : i = s.nodes.length := by omega
  refine VC.go 5 ?_
  simp only [push_cast, ↓reduceIte, Nat.reduceEqDiff, Nat.reduceAdd, Nat.reduceMul, Nat.reduceSub, Nat.reduceLT, Nat.reduceLeDiff, reduceCtorEq, Nat.reduceMod, Int.reduceEq, Int.reduceLT, Int.reduceLE, Int.reduceToNat, dite_true, h']
  refine VC.freezeR (List.Perm.refl _) fun F8 hF8 hri8 => VC.go 100 ?_
  obtain ⟨l, hl⟩ : ∃ l, l = allOf s s.nodes.length := ⟨_, rfl⟩
  rw [← hl] at hri hmi
  have hI := Row.ints hri hri8
  obtain ⟨_, _, e9, hI1, hI2, hI3⟩ := hI
  cases e9
  have hF28 := PH.le_trans hF27 hF8
  simp only [push_cast, ↓reduceIte, Nat.reduceEqDiff, Nat.reduceAdd, Nat.reduceMul, Nat.reduceSub, Nat.reduceLT, Nat.reduceLeDiff, reduceCtorEq, Nat.reduceMod, Int.reduceEq, Int.reduceLT, Int.reduceLE, Int.reduceToNat, dite_true]
  refine VC.loopF (ι := Nat × PH) (fun j => [(6, .v (.int .i64 j.1)), (4, .v (.slice pi l.length ci)), (3, .o 1 b3 0)]) (fun j => j.2) (fun j => j.1 ≤ l.length ∧ F8.le j.2) (fun j => l.length - j.1) (0, F8) ⟨Nat.zero_le _, PH.le_refl _⟩ (by simp [subk, Eng.look]) rfl ?_
  rintro ⟨j, F9⟩ ⟨hj, hF9⟩ G hG
  dsimp only at hj hF9 hG ⊢
  have hF29 := PH.le_trans hF28 hF9
  by_cases h : j < l.length
  case neg =>
    have h' : ¬ (j : Int) < (l.length : Int) := by omega
    refine VC.go 100 ?_
    simp only [push_cast, ↓reduceIte, Nat.reduceEqDiff, Nat.reduceAdd, Nat.reduceMul, Nat.reduceSub, Nat.reduceLT, Nat.reduceLeDiff, reduceCtorEq, Nat.reduceMod, Int.reduceEq, Int.reduceLT, Int.reduceLE, Int.reduceToNat, dite_true, h']
    exact RetOk.p rfl rfl
  have h' : (j : Int) < (l.length : Int) := by omega
  have h0 : (0 : Int) ≤ (j : Int) := by omega
  have ew : IntKind.i64.wrap ((j : Int) + 1) = ((j + 1 : Nat) : Int) := wadd j h (Nat.le_trans hI1 hI2)
  obtain ⟨ql, rfl, hql⟩ := (hI3.mono hF9).elem1 (i := j) (v := .int .i64 l[j]) (by simp [h])
  have hmem : l[j] ∈ allOf s s.nodes.length := by rw [← hl]; exact List.getElem_mem h
  obtain ⟨htwo, hneg⟩ := hst _ (allOf_mem hmem)
  have hlt : ¬ (s.nodes.length : Int) ≤ l[j] := by rcases htwo with e | e <;> omega
  refine VC.go 100 ?_
  simp only [push_cast, ↓reduceIte, Nat.reduceEqDiff, Nat.reduceAdd, Nat.reduceMul, Nat.reduceSub, Nat.reduceLT, Nat.reduceLeDiff, reduceCtorEq, Nat.reduceMod, Int.reduceEq, Int.reduceLT, Int.reduceLE, Int.reduceToNat, dite_true, h']
  refine VC.draw (.q 0 (.q 1 (.q 2 (.q 3 (.q 4 (.q 5 (.q 6 (.q 7 (.q 8 (.q 9 (.q 10 (.q 11 (.q 12 (.q 13 (.q 14 (.q 15 (.q 16 (.q 17 (.q 18 (.q 19 (.e 20 (.q 21 (.q 22 (.q 23 (.done))))))))))))))))))))))))) mixed (by rfl) ?_
  by_cases hp : 0 ≤ l[j]
  · simp only [push_cast, ↓reduceIte, Nat.reduceEqDiff, Nat.reduceAdd, Nat.reduceMul, Nat.reduceSub, Nat.reduceLT, Nat.reduceLeDiff, reduceCtorEq, Nat.reduceMod, Int.reduceEq, Int.reduceLT, Int.reduceLE, Int.reduceToNat, dite_true, h', h0, hql, hlt, eq_true hp]
    refine CallV.pure (leadsR F9 _ _ s l[j] rfl (hnd.mono hF29) hsm hp (by omega)) ?_
    rintro _ F10 hF10 rfl
    have hng : ¬ 0 ≤ nx s l[j] := by have := hneg hp; omega
    simp only [push_cast, ↓reduceIte, Nat.reduceEqDiff, Nat.reduceAdd, Nat.reduceMul, Nat.reduceSub, Nat.reduceLT, Nat.reduceLeDiff, reduceCtorEq, Nat.reduceMod, Int.reduceEq, Int.reduceLT, Int.reduceLE, Int.reduceToNat, dite_true, hng]
    refine VC.go 100 ?_
    simp only [push_cast, ↓reduceIte, Nat.reduceEqDiff, Nat.reduceAdd, Nat.reduceMul, Nat.reduceSub, Nat.reduceLT, Nat.reduceLeDiff, reduceCtorEq, Nat.reduceMod, Int.reduceEq, Int.reduceLT, Int.reduceLE, Int.reduceToNat, dite_true, ew]
    exact hG (j + 1, F10) _ ⟨h, PH.le_trans hF9 hF10⟩ (by simp; omega) (by simp [subk, Eng.look]) (List.Sublist.refl _) rfl rfl
  · simp only [push_cast, ↓reduceIte, Nat.reduceEqDiff, Nat.reduceAdd, Nat.reduceMul, Nat.reduceSub, Nat.reduceLT, Nat.reduceLeDiff, reduceCtorEq, Nat.reduceMod, Int.reduceEq, Int.reduceLT, Int.reduceLE, Int.reduceToNat, dite_true, h', h0, hql, hlt, hp]
    refine VC.go 100 ?_
    simp only [push_cast, ↓reduceIte, Nat.reduceEqDiff, Nat.reduceAdd, Nat.reduceMul, Nat.reduceSub, Nat.reduceLT, Nat.reduceLeDiff, reduceCtorEq, Nat.reduceMod, Int.reduceEq, Int.reduceLT, Int.reduceLE, Int.reduceToNat, dite_true, ew]
    exact hG (j + 1, F9) _ ⟨h, hF9⟩ (by simp; omega) (by simp [subk, Eng.look]) (List.Sublist.refl _) rfl rfl
end Go.Proofs.Ythdbmbabfngakaa.G
