/- Graphs: the law that nodes' numbers play no part, its walk. -/
import Derived.Test.YthdbmbabfngakaaH23
namespace Go.Proofs.Ythdbmbabfngakaa.G
open Go Go.Eng Go.Proofs Go.Proofs.Ythdbmbabfngakaa.T Go.Proofs.Ythdbmbabfngakaa.K
set_option linter.unusedSimpArgs false
set_option linter.unusedVariables false
set_option maxRecDepth 100000
set_option maxHeartbeats 4000000
theorem flatMap_congr' {α β : Type} {f g : α → List β} : ∀ {l : List α}, (∀ x ∈ l, f x = g x) → l.flatMap f = l.flatMap g
  | [], _ => rfl
  | a :: l, h => by rw [List.flatMap_cons, List.flatMap_cons, h a List.mem_cons_self, flatMap_congr' fun x hx => h x (List.mem_cons_of_mem _ hx)]
/-- Rows of four cells each, by place. -/
def quads (n : Nat) (f : Nat → List Value) : List Value := (List.range n).flatMap f
theorem quads_len {f : Nat → List Value} (hf : ∀ j, (f j).length = 4) : ∀ n, (quads n f).length = n * 4
  | 0 => rfl
  | n + 1 => by
    rw [quads, List.range_succ, List.flatMap_append, List.length_append]
    have := quads_len hf n
    rw [quads] at this
    rw [this]
    simp [hf]; omega
theorem quads_take {f : Nat → List Value} (hf : ∀ j, (f j).length = 4) (n : Nat) : ∀ k, k ≤ n → (quads n f).take (k * 4) = quads k f := by
  intro k hk
  obtain ⟨d, rfl⟩ : ∃ d, n = k + d := ⟨n - k, by omega⟩
  have : quads (k + d) f = quads k f ++ (List.range d).flatMap fun x => f (k + x) := by
    rw [quads, List.range_add, List.flatMap_append, List.flatMap_map]; rfl
  rw [this, List.take_left' (quads_len hf k)]
theorem quads_set {f : Nat → List Value} (hf : ∀ j, (f j).length = 4) {n j : Nat} (hj : j < n) (vs : List Value) (hv : vs.length = 4) : (quads n f).take (j * 4) ++ vs ++ (quads n f).drop (j * 4 + 4) = quads n (fun x => if x = j then vs else f x) := by
  have hf' : ∀ x, ((fun x => if x = j then vs else f x) x).length = 4 := fun x => by dsimp only; split; exact hv; exact hf x
  obtain ⟨d, rfl⟩ : ∃ d, n = j + 1 + d := ⟨n - (j + 1), by omega⟩
  have sp : ∀ g : Nat → List Value, quads (j + 1 + d) g = quads j g ++ g j ++ (List.range d).flatMap fun x => g (j + 1 + x) := fun g => by
    rw [quads, List.range_add, List.flatMap_append, List.flatMap_map, List.range_succ, List.flatMap_append]
    simp [quads]
  rw [quads_take hf _ j (by omega), sp f, sp]
  have e1 : quads j (fun x => if x = j then vs else f x) = quads j f := by
    unfold quads
    refine flatMap_congr' fun x hx => ?_
    have := List.mem_range.1 hx
    rw [if_neg (by omega)]
  have e2 : ((List.range d).flatMap fun x => (fun x => if x = j then vs else f x) (j + 1 + x)) = (List.range d).flatMap fun x => f (j + 1 + x) := by
    refine flatMap_congr' fun x _ => ?_
    dsimp only
    rw [if_neg (by omega)]
  rw [e1, e2]
  simp only [if_true]
  congr 1
  rw [show j * 4 + 4 = (quads j f ++ f j).length from by rw [List.length_append, quads_len hf, hf], List.drop_left]
theorem each_quads {R : Nd → List Value → Prop} {f : Nat → List Value} {h : Nat → Nd} : ∀ n, (∀ j, j < n → R (h j) (f j)) → Each R ((List.range n).map h) (quads n f)
  | 0, _ => rfl
  | n + 1, hR => by
    rw [quads, List.range_succ, List.map_append, List.flatMap_append]
    refine each_snoc (each_quads n fun j hj => hR j (by omega)) ?_
    simpa using hR n (by omega)
def zeroNd : List Value := [.int .i64 0, .int .i64 0, .slice none 0 0, .slice none 0 0]
theorem made_quads (n : Nat) : (madeCells (Value.agg #[.int .i64 0, .int .i64 0, .slice none 0 0, .slice none 0 0]).cells (n * 4)).toList = quads n (fun _ => zeroNd) := by
  refine List.ext_getElem? fun i => ?_
  unfold madeCells
  have hl := quads_len (f := fun _ => zeroNd) (fun _ => rfl) n
  by_cases h : i < n * 4
  · have h1 : ∀ n i, i < n * 4 → (quads n (fun _ => zeroNd))[i]? = zeroNd[i % 4]? := by
      intro n
      induction n with
      | zero => intro i h; omega
      | succ n ih =>
        intro i h
        have hl := quads_len (f := fun _ => zeroNd) (fun _ => rfl) n
        rw [quads, List.range_succ, List.flatMap_append]
        by_cases h2 : i < n * 4
        · rw [List.getElem?_append_left (by rw [← quads, hl]; exact h2)]
          exact ih i h2
        · rw [List.getElem?_append_right (by rw [← quads, hl]; omega), ← quads, hl]
          simp only [List.flatMap_cons, List.flatMap_nil, List.append_nil]
          congr 1
          omega
    rw [h1 n i h]
    have hm : i % 4 < 4 := Nat.mod_lt _ (by omega)
    simp only [Value.cells, Array.toList_map, Array.toList_range, List.getElem?_map, List.getElem?_range h, Option.map_some]
    have h4 : i % 4 = 0 ∨ i % 4 = 1 ∨ i % 4 = 2 ∨ i % 4 = 3 := by omega
    rcases h4 with e | e | e | e <;> simp [e, zeroNd]
  · rw [List.getElem?_eq_none (by simp; omega), List.getElem?_eq_none (by rw [hl]; omega)]
theorem okg_turn {s : Gr} (h : Okg s) (k : Nat) : Okg (turnG k s) := by
  have hm : ∀ m ∈ (turnG k s).nodes, m = ⟨0, 0, [], []⟩ ∨ ∃ m' ∈ s.nodes, m = { m' with kids := m'.kids.map (turnN s.nodes.length k) } := fun m hm => by
    simp only [turnG] at hm
    obtain ⟨j, _, rfl⟩ := List.mem_map.1 hm
    cases e : s.nodes[(j + s.nodes.length - k) % s.nodes.length]? with
    | none => exact .inl rfl
    | some m' => exact .inr ⟨m', List.mem_of_getElem? e, rfl⟩
  refine ⟨?_, ?_, fun m hmm => ?_, fun m hmm => ?_, fun m hmm => ?_⟩
  · simp only [turnG, List.length_map, List.length_range]; exact h.nodes
  · simp only [turnG, List.length_map]; exact h.roots
  · rcases hm m hmm with rfl | ⟨m', h1, rfl⟩
    · simp
    · simpa using h.kids m' h1
  · rcases hm m hmm with rfl | ⟨m', h1, rfl⟩
    · simp
    · exact h.nons m' h1
  · rcases hm m hmm with rfl | ⟨m', h1, rfl⟩
    · simp
    · exact h.nat m' h1
def turnNd (n k : Nat) (m : Nd) : Nd := { m with kids := m.kids.map (turnN n k) }
theorem law_numbers (F : PH) (vg : Value) (g : Gr) (by_ : Nat) (hby : by_ ≤ 255) (hg : Gra F vg g) (hn : OkN g) : PFn Try.prog 5 [vg, .int .u8 by_] F (fun v _ => v = .bool true) := by
  have hok := okg_few hn
  have hg' := hg
  obtain ⟨p, c, q, d, rfl⟩ := hg.val
  obtain ⟨s, hs⟩ : ∃ s, s = few g := ⟨_, rfl⟩
  rw [← hs] at hok
  have hsz : Sz 60 60 20 s := hs ▸ Sz.few g
  refine Fn.intro (n := 71) (ts := [4]) Try.func5 rfl rfl rfl rfl (by simp) fun B hB => VC.go 6 ?_
  simp only [push_cast, ↓reduceIte, Nat.reduceEqDiff, Nat.reduceAdd, Nat.reduceMul, Nat.reduceSub, Nat.reduceLT, Nat.reduceLeDiff, reduceCtorEq, Nat.reduceMod, Int.reduceEq, Int.reduceLT, Int.reduceLE, Int.reduceToNat, dite_true]
  intro b2
  refine CallV.pure (fewL F _ g hg') ?_
  intro v F1 hF1 h1
  rw [← hs] at h1
  obtain ⟨p1, c1, q1, d1, rfl⟩ := h1.val
  have hnd : Nodes F1 (.slice q1 s.nodes.length d1) s.nodes := by
    obtain ⟨_, _, e, _, h⟩ := h1
    cases e; exact h
  have hrt : Ints F1 (.slice p1 s.roots.length c1) s.roots := by
    obtain ⟨_, _, e, h, _⟩ := h1
    cases e; exact h
  simp only [push_cast, ↓reduceIte, Nat.reduceEqDiff, Nat.reduceAdd, Nat.reduceMul, Nat.reduceSub, Nat.reduceLT, Nat.reduceLeDiff, reduceCtorEq, Nat.reduceMod, Int.reduceEq, Int.reduceLT, Int.reduceLE, Int.reduceToNat, dite_true]
  intro b5
  refine VC.freeze (m := ⟨1, b5, 3, _⟩) (M := [⟨0, b2, 25, [.slice p1 s.roots.length c1, .slice q1 s.nodes.length d1]⟩]) (List.Perm.swap _ _ _) fun F2 hF2 hb5 => ?_
  dsimp only at hb5
  refine VC.reL [(5, .v (.pointer (some ⟨b5, 0, none⟩))), (4, .v (.bool false)), (2, .o 0 b2 0), (1, .v (.int .u8 by_))] (by simp [subv, Eng.look, AV.val]) ?_
  have c5 : ∀ F', F2.le F' → F'.cell ⟨b5, 0, none⟩ = some (.int .i64 s.nodes.length) := fun F' h => by rw [cell_one (h _ _ hb5)]; rfl
  have c52 := c5 F2 (PH.le_refl _)
  by_cases hz : s.nodes.length = 0
  · have hz' : (s.nodes.length : Int) = 0 := by omega
    refine VC.go 100 ?_
    simp only [push_cast, ↓reduceIte, Nat.reduceEqDiff, Nat.reduceAdd, Nat.reduceMul, Nat.reduceSub, Nat.reduceLT, Nat.reduceLeDiff, reduceCtorEq, Nat.reduceMod, Int.reduceEq, Int.reduceLT, Int.reduceLE, Int.reduceToNat, dite_true, c52, eq_true hz']
    refine CallV.pure (awakeL F2) ?_
    rintro _ F3 hF3 rfl
    simp only [push_cast, ↓reduceIte, Nat.reduceEqDiff, Nat.reduceAdd, Nat.reduceMul, Nat.reduceSub, Nat.reduceLT, Nat.reduceLeDiff, reduceCtorEq, Nat.reduceMod, Int.reduceEq, Int.reduceLT, Int.reduceLE, Int.reduceToNat, dite_true]
    exact RetOk.p rfl rfl
  have hz' : ¬ (s.nodes.length : Int) = 0 := by omega
  obtain ⟨n, hnn⟩ : ∃ n, n = s.nodes.length := ⟨_, rfl⟩
  have hn0 : 0 < n := by omega
  have hn60 : n ≤ 60 := by rw [hnn]; exact hsz.nodes
  have hby1 : IntKind.i64.wrap (by_ : Int) = (by_ : Int) := IntWalk.i64_in _ (by omega)
  obtain ⟨k, hk⟩ : ∃ k, k = by_ % n := ⟨_, rfl⟩
  have hkn : k < n := by rw [hk]; exact Nat.mod_lt _ hn0
  have htm : (by_ : Int).tmod (s.nodes.length : Int) = (k : Int) := by rw [hk, hnn]; rfl
  refine VC.go 8 ?_
  simp only [push_cast, ↓reduceIte, Nat.reduceEqDiff, Nat.reduceAdd, Nat.reduceMul, Nat.reduceSub, Nat.reduceLT, Nat.reduceLeDiff, reduceCtorEq, Nat.reduceMod, Int.reduceEq, Int.reduceLT, Int.reduceLE, Int.reduceToNat, dite_true, c52, hz']
  refine CallV.pure (awakeL F2) ?_
  rintro _ F3 hF3 rfl
  have c53 := c5 F3 hF3
  simp only [push_cast, ↓reduceIte, Nat.reduceEqDiff, Nat.reduceAdd, Nat.reduceMul, Nat.reduceSub, Nat.reduceLT, Nat.reduceLeDiff, reduceCtorEq, Nat.reduceMod, Int.reduceEq, Int.reduceLT, Int.reduceLE, Int.reduceToNat, dite_true, hby1, c53, hz', htm]
  intro b6
  refine VC.freeze (m := ⟨2, b6, 3, _⟩) (M := [⟨0, b2, 25, [.slice p1 s.roots.length c1, .slice q1 s.nodes.length d1]⟩]) (List.Perm.swap _ _ _) fun F4 hF4 hb6 => ?_
  dsimp only at hb6
  have hF24 := PH.le_trans hF3 hF4
  have hF14 : F1.le F4 := PH.le_trans hF2 hF24
  have c54 := c5 F4 hF24
  refine VC.reL [(6, .v (.pointer (some ⟨b6, 0, none⟩))), (5, .v (.pointer (some ⟨b5, 0, none⟩))), (4, .v (.bool false)), (2, .o 0 b2 0)] (by simp [subv, Eng.look, AV.val]) (VC.go 100 ?_)
  have hnmax : n ≤ maxLen := by unfold maxLen; omega
  rw [← hnn] at hnd c54 ⊢
  have f5 := hF24 _ _ hb5
  rw [← hnn] at f5
  have hturn : ∀ (F' : PH), F4.le F' → ∀ (v : Value) (l : List Int), Ints F' v l → l.length ≤ 1000000 → RowFn Try.prog 18 [v, .pointer (some ⟨b5, 0, none⟩), .pointer (some ⟨b6, 0, none⟩)] F' 3 1 ((l.map (turnN n k)).map (.int .i64)) := fun F' hF' v l hl hlen => turnL F' b5 b6 n k v l hl hlen hn0 (by omega) (by omega) (hF' _ _ f5) (hF' _ _ hb6)
  have hrt4 := hrt.mono hF14
  have hrl := hsz.roots
  simp only [push_cast, ↓reduceIte, Nat.reduceEqDiff, Nat.reduceAdd, Nat.reduceMul, Nat.reduceSub, Nat.reduceLT, Nat.reduceLeDiff, reduceCtorEq, Nat.reduceMod, Int.reduceEq, Int.reduceLT, Int.reduceLE, Int.reduceToNat, dite_true]
  refine VC.drawT (fun S => ∃ ix im bx bn vr F5, S.F = F5 ∧ F4.le F5 ∧ Ints F5 vr (s.roots.map (turnN n k)) ∧ S.R = [] ∧ subk S.L [(8, .o ix bx 0), (7, .v (.func (.func 18) #[] #[.pointer (some ⟨b5, 0, none⟩), .pointer (some ⟨b6, 0, none⟩)])), (6, .v (.pointer (some ⟨b6, 0, none⟩))), (5, .v (.pointer (some ⟨b5, 0, none⟩))), (2, .o 0 b2 0)] ∧ S.M.Perm [⟨im, bn, 34, quads n (fun _ => zeroNd)⟩, ⟨0, b2, 25, [.slice p1 s.roots.length c1, .slice q1 n d1]⟩, ⟨ix, bx, 25, [vr, .slice (some ⟨bn, 0, none⟩) n n]⟩]) (.q 0 (.q 1 (.q 2 (.q 4 (.e3 3 (.e2 5 (.e2 6 (.e 7 (.e 8 (.done))) 7 (.e 6 (.e 8 (.done)))) 7 (.e 5 (.e 6 (.e 8 (.done))))) 5 (.e2 3 (.e2 6 (.e 7 (.e 8 (.done))) 7 (.e 6 (.e 8 (.done)))) 7 (.e 3 (.e 6 (.e 8 (.done))))) 7 (.e2 3 (.e 5 (.e 6 (.e 8 (.done)))) 5 (.e 3 (.e 6 (.e 8 (.done)))))))))) mixed (by rfl) ?_ ?_
  · simp only [push_cast, ↓reduceIte, Nat.reduceEqDiff, Nat.reduceAdd, Nat.reduceMul, Nat.reduceSub, Nat.reduceLT, Nat.reduceLeDiff, reduceCtorEq, Nat.reduceMod, Int.reduceEq, Int.reduceLT, Int.reduceLE, Int.reduceToNat, dite_true, c54]
    refine ⟨?_, ?_, ?_⟩
    · refine CallV.sl (hturn F4 (PH.le_refl _) _ s.roots hrt4 (by omega)) ?_
      intro vr F5 mr hF5 hmr hvr
      obtain rfl : mr = (s.roots.map (turnN n k)).length := by simpa using hmr.symm
      have hvr' : Ints F5 vr (s.roots.map (turnN n k)) := hvr
      obtain ⟨pv, cv, rfl, _⟩ := hvr
      (try simp only [push_cast, ↓reduceIte, Nat.reduceEqDiff, Nat.reduceAdd, Nat.reduceMul, Nat.reduceSub, Nat.reduceLT, Nat.reduceLeDiff, reduceCtorEq, Nat.reduceMod, Int.reduceEq, Int.reduceLT, Int.reduceLE, Int.reduceToNat, dite_true])
      refine ⟨?_, ?_⟩
      · refine Eff.makeSlice (m := n) rfl ty23 rfl ty34 rfl rfl (by simp; omega) hnmax ?_
        intro bn
        rw [show (madeCells _ _).toList = quads n (fun _ => zeroNd) from made_quads n]
        (try simp only [push_cast, ↓reduceIte, Nat.reduceEqDiff, Nat.reduceAdd, Nat.reduceMul, Nat.reduceSub, Nat.reduceLT, Nat.reduceLeDiff, reduceCtorEq, Nat.reduceMod, Int.reduceEq, Int.reduceLT, Int.reduceLE, Int.reduceToNat, dite_true])
        refine ⟨?_, ?_⟩
        · intro bx
          (try simp only [push_cast, ↓reduceIte, Nat.reduceEqDiff, Nat.reduceAdd, Nat.reduceMul, Nat.reduceSub, Nat.reduceLT, Nat.reduceLeDiff, reduceCtorEq, Nat.reduceMod, Int.reduceEq, Int.reduceLT, Int.reduceLE, Int.reduceToNat, dite_true])
          exact ⟨_, _, _, _, _, _, rfl, hF5, hvr', by simp [subk, Eng.look], List.Perm.swap _ _ _⟩
        · intro bx
          (try simp only [push_cast, ↓reduceIte, Nat.reduceEqDiff, Nat.reduceAdd, Nat.reduceMul, Nat.reduceSub, Nat.reduceLT, Nat.reduceLeDiff, reduceCtorEq, Nat.reduceMod, Int.reduceEq, Int.reduceLT, Int.reduceLE, Int.reduceToNat, dite_true])
          exact ⟨_, _, _, _, _, _, rfl, hF5, hvr', by simp [subk, Eng.look], List.Perm.swap _ _ _⟩
      · intro bx
        (try simp only [push_cast, ↓reduceIte, Nat.reduceEqDiff, Nat.reduceAdd, Nat.reduceMul, Nat.reduceSub, Nat.reduceLT, Nat.reduceLeDiff, reduceCtorEq, Nat.reduceMod, Int.reduceEq, Int.reduceLT, Int.reduceLE, Int.reduceToNat, dite_true])
        refine Eff.makeSlice (m := n) rfl ty23 rfl ty34 rfl rfl (by simp; omega) hnmax ?_
        intro bn
        rw [show (madeCells _ _).toList = quads n (fun _ => zeroNd) from made_quads n]
        (try simp only [push_cast, ↓reduceIte, Nat.reduceEqDiff, Nat.reduceAdd, Nat.reduceMul, Nat.reduceSub, Nat.reduceLT, Nat.reduceLeDiff, reduceCtorEq, Nat.reduceMod, Int.reduceEq, Int.reduceLT, Int.reduceLE, Int.reduceToNat, dite_true])
        exact ⟨_, _, _, _, _, _, rfl, hF5, hvr', by simp [subk, Eng.look], List.perm_append_comm (l₁ := [_, _]) (l₂ := [_])⟩
    · refine Eff.makeSlice (m := n) rfl ty23 rfl ty34 rfl rfl (by simp; omega) hnmax ?_
      intro bn
      rw [show (madeCells _ _).toList = quads n (fun _ => zeroNd) from made_quads n]
      (try simp only [push_cast, ↓reduceIte, Nat.reduceEqDiff, Nat.reduceAdd, Nat.reduceMul, Nat.reduceSub, Nat.reduceLT, Nat.reduceLeDiff, reduceCtorEq, Nat.reduceMod, Int.reduceEq, Int.reduceLT, Int.reduceLE, Int.reduceToNat, dite_true])
      refine ⟨?_, ?_⟩
      · refine CallV.sl (hturn F4 (PH.le_refl _) _ s.roots hrt4 (by omega)) ?_
        intro vr F5 mr hF5 hmr hvr
        obtain rfl : mr = (s.roots.map (turnN n k)).length := by simpa using hmr.symm
        have hvr' : Ints F5 vr (s.roots.map (turnN n k)) := hvr
        obtain ⟨pv, cv, rfl, _⟩ := hvr
        (try simp only [push_cast, ↓reduceIte, Nat.reduceEqDiff, Nat.reduceAdd, Nat.reduceMul, Nat.reduceSub, Nat.reduceLT, Nat.reduceLeDiff, reduceCtorEq, Nat.reduceMod, Int.reduceEq, Int.reduceLT, Int.reduceLE, Int.reduceToNat, dite_true])
        refine ⟨?_, ?_⟩
        · intro bx
          (try simp only [push_cast, ↓reduceIte, Nat.reduceEqDiff, Nat.reduceAdd, Nat.reduceMul, Nat.reduceSub, Nat.reduceLT, Nat.reduceLeDiff, reduceCtorEq, Nat.reduceMod, Int.reduceEq, Int.reduceLT, Int.reduceLE, Int.reduceToNat, dite_true])
          exact ⟨_, _, _, _, _, _, rfl, hF5, hvr', by simp [subk, Eng.look], List.Perm.swap _ _ _⟩
        · intro bx
          (try simp only [push_cast, ↓reduceIte, Nat.reduceEqDiff, Nat.reduceAdd, Nat.reduceMul, Nat.reduceSub, Nat.reduceLT, Nat.reduceLeDiff, reduceCtorEq, Nat.reduceMod, Int.reduceEq, Int.reduceLT, Int.reduceLE, Int.reduceToNat, dite_true])
          exact ⟨_, _, _, _, _, _, rfl, hF5, hvr', by simp [subk, Eng.look], List.Perm.swap _ _ _⟩
      · intro bx
        (try simp only [push_cast, ↓reduceIte, Nat.reduceEqDiff, Nat.reduceAdd, Nat.reduceMul, Nat.reduceSub, Nat.reduceLT, Nat.reduceLeDiff, reduceCtorEq, Nat.reduceMod, Int.reduceEq, Int.reduceLT, Int.reduceLE, Int.reduceToNat, dite_true])
        refine CallV.sl (hturn F4 (PH.le_refl _) _ s.roots hrt4 (by omega)) ?_
        intro vr F5 mr hF5 hmr hvr
        obtain rfl : mr = (s.roots.map (turnN n k)).length := by simpa using hmr.symm
        have hvr' : Ints F5 vr (s.roots.map (turnN n k)) := hvr
        obtain ⟨pv, cv, rfl, _⟩ := hvr
        (try simp only [push_cast, ↓reduceIte, Nat.reduceEqDiff, Nat.reduceAdd, Nat.reduceMul, Nat.reduceSub, Nat.reduceLT, Nat.reduceLeDiff, reduceCtorEq, Nat.reduceMod, Int.reduceEq, Int.reduceLT, Int.reduceLE, Int.reduceToNat, dite_true])
        exact ⟨_, _, _, _, _, _, rfl, hF5, hvr', by simp [subk, Eng.look], List.Perm.swap _ _ _⟩
    · intro bx
      (try simp only [push_cast, ↓reduceIte, Nat.reduceEqDiff, Nat.reduceAdd, Nat.reduceMul, Nat.reduceSub, Nat.reduceLT, Nat.reduceLeDiff, reduceCtorEq, Nat.reduceMod, Int.reduceEq, Int.reduceLT, Int.reduceLE, Int.reduceToNat, dite_true])
      refine ⟨?_, ?_⟩
      · refine CallV.sl (hturn F4 (PH.le_refl _) _ s.roots hrt4 (by omega)) ?_
        intro vr F5 mr hF5 hmr hvr
        obtain rfl : mr = (s.roots.map (turnN n k)).length := by simpa using hmr.symm
        have hvr' : Ints F5 vr (s.roots.map (turnN n k)) := hvr
        obtain ⟨pv, cv, rfl, _⟩ := hvr
        (try simp only [push_cast, ↓reduceIte, Nat.reduceEqDiff, Nat.reduceAdd, Nat.reduceMul, Nat.reduceSub, Nat.reduceLT, Nat.reduceLeDiff, reduceCtorEq, Nat.reduceMod, Int.reduceEq, Int.reduceLT, Int.reduceLE, Int.reduceToNat, dite_true])
        refine Eff.makeSlice (m := n) rfl ty23 rfl ty34 rfl rfl (by simp; omega) hnmax ?_
        intro bn
        rw [show (madeCells _ _).toList = quads n (fun _ => zeroNd) from made_quads n]
        (try simp only [push_cast, ↓reduceIte, Nat.reduceEqDiff, Nat.reduceAdd, Nat.reduceMul, Nat.reduceSub, Nat.reduceLT, Nat.reduceLeDiff, reduceCtorEq, Nat.reduceMod, Int.reduceEq, Int.reduceLT, Int.reduceLE, Int.reduceToNat, dite_true])
        exact ⟨_, _, _, _, _, _, rfl, hF5, hvr', by simp [subk, Eng.look], List.perm_append_comm (l₁ := [_, _]) (l₂ := [_])⟩
      · refine Eff.makeSlice (m := n) rfl ty23 rfl ty34 rfl rfl (by simp; omega) hnmax ?_
        intro bn
        rw [show (madeCells _ _).toList = quads n (fun _ => zeroNd) from made_quads n]
        (try simp only [push_cast, ↓reduceIte, Nat.reduceEqDiff, Nat.reduceAdd, Nat.reduceMul, Nat.reduceSub, Nat.reduceLT, Nat.reduceLeDiff, reduceCtorEq, Nat.reduceMod, Int.reduceEq, Int.reduceLT, Int.reduceLE, Int.reduceToNat, dite_true])
        refine CallV.sl (hturn F4 (PH.le_refl _) _ s.roots hrt4 (by omega)) ?_
        intro vr F5 mr hF5 hmr hvr
        obtain rfl : mr = (s.roots.map (turnN n k)).length := by simpa using hmr.symm
        have hvr' : Ints F5 vr (s.roots.map (turnN n k)) := hvr
        obtain ⟨pv, cv, rfl, _⟩ := hvr
        (try simp only [push_cast, ↓reduceIte, Nat.reduceEqDiff, Nat.reduceAdd, Nat.reduceMul, Nat.reduceSub, Nat.reduceLT, Nat.reduceLeDiff, reduceCtorEq, Nat.reduceMod, Int.reduceEq, Int.reduceLT, Int.reduceLE, Int.reduceToNat, dite_true])
        exact ⟨_, _, _, _, _, _, rfl, hF5, hvr', by simp [subk, Eng.look], List.perm_append_comm (l₁ := [_, _]) (l₂ := [_])⟩
  rintro S ⟨ix, im, bx, bn, vr, F5, hSF, hF5, hvr, hSR, hL, hM⟩
  obtain ⟨L, M, F', R, nx⟩ := S
  subst hSF hSR
  dsimp only at hL hM hF5 hvr ⊢
  have hcl : AV.v (.func (.func 18) #[] #[.pointer (some ⟨b5, 0, none⟩), .pointer (some ⟨b6, 0, none⟩)]) = AV.v (.func (.func 18) #[] #[.pointer (some ⟨b5, 0, none⟩), .pointer (some ⟨b6, 0, none⟩)]) := rfl
  refine VC.weaken (S' := ⟨[(8, .o ix bx 0), (7, .v (.func (.func 18) #[] #[.pointer (some ⟨b5, 0, none⟩), .pointer (some ⟨b6, 0, none⟩)])), (6, .v (.pointer (some ⟨b6, 0, none⟩))), (5, .v (.pointer (some ⟨b5, 0, none⟩))), (2, .o 0 b2 0)], M, F', [], 0⟩) ⟨subk_le hL, List.Sublist.refl _, rfl, List.Sublist.refl _⟩ ?_
  refine VC.permM hM ?_
  refine VC.renM [(8, .o 1 bx 0), (7, .v (.func (.func 18) #[] #[.pointer (some ⟨b5, 0, none⟩), .pointer (some ⟨b6, 0, none⟩)])), (6, .v (.pointer (some ⟨b6, 0, none⟩))), (5, .v (.pointer (some ⟨b5, 0, none⟩))), (2, .o 0 b2 0)] [⟨2, bn, 34, quads n (fun _ => zeroNd)⟩, ⟨0, b2, 25, [.slice p1 s.roots.length c1, .slice q1 n d1]⟩, ⟨1, bx, 25, [vr, .slice (some ⟨bn, 0, none⟩) n n]⟩] 3 (by simp [subv, Eng.look, AV.val]) rfl (VC.go 100 ?_)
  clear hL hM hcl
  obtain ⟨pv, cv, rfl, hvr0⟩ := hvr
  have hvr : Ints F' (.slice pv (s.roots.map (turnN n k)).length cv) (s.roots.map (turnN n k)) := ⟨pv, cv, rfl, hvr0⟩
  simp only [push_cast, ↓reduceIte, Nat.reduceEqDiff, Nat.reduceAdd, Nat.reduceMul, Nat.reduceSub, Nat.reduceLT, Nat.reduceLeDiff, reduceCtorEq, Nat.reduceMod, Int.reduceEq, Int.reduceLT, Int.reduceLE, Int.reduceToNat, dite_true]
  refine VC.loopM (ι := Nat × (Nat → List Value) × PH) (fun i => [(9, .v (.int .i64 i.1)), (8, .o 1 bx 0), (7, .v (.func (.func 18) #[] #[.pointer (some ⟨b5, 0, none⟩), .pointer (some ⟨b6, 0, none⟩)])), (6, .v (.pointer (some ⟨b6, 0, none⟩))), (5, .v (.pointer (some ⟨b5, 0, none⟩))), (2, .o 0 b2 0)]) (fun i => [⟨2, bn, 34, quads n i.2.1⟩, ⟨0, b2, 25, [.slice p1 s.roots.length c1, .slice q1 n d1]⟩, ⟨1, bx, 25, [.slice pv (s.roots.map (turnN n k)).length cv, .slice (some ⟨bn, 0, none⟩) n n]⟩]) (fun i => i.2.2)
    (fun i => i.1 ≤ n ∧ F'.le i.2.2 ∧ (∀ j, (i.2.1 j).length = 4) ∧ ∀ i' m, i' < i.1 → s.nodes[i']? = some m → RNd i.2.2 (turnNd n k m) (i.2.1 ((i' + k) % n))) (fun i => n - i.1) (0, fun _ => zeroNd, F') ⟨Nat.zero_le _, PH.le_refl _, fun _ => rfl, fun _ _ h => absurd h (by simp)⟩ (by simp [subk, Eng.look]) (List.Sublist.refl _) rfl ?_
  rintro ⟨i, f, F6⟩ ⟨hi, hF6, hf4, hfR⟩ G hG
  dsimp only at hi hF6 hf4 hfR hG ⊢
  have hF46 := PH.le_trans hF5 hF6
  have c56 := hF46.cell c54
  have hql := quads_len hf4 n
  by_cases h : i < n
  case neg =>
    have h' : ¬ (i : Int) < (n : Int) := by omega
    obtain rfl : i = n := by omega
    refine VC.go 5 ?_
    simp only [push_cast, ↓reduceIte, Nat.reduceEqDiff, Nat.reduceAdd, Nat.reduceMul, Nat.reduceSub, Nat.reduceLT, Nat.reduceLeDiff, reduceCtorEq, Nat.reduceMod, Int.reduceEq, Int.reduceLT, Int.reduceLE, Int.reduceToNat, dite_true, c56, h']
    refine VC.freeze (List.Perm.refl _) fun F7 hF7 hbn => VC.go 100 ?_
    dsimp only at hbn
    have hF47 := PH.le_trans hF46 hF7
    have hx : Gra F7 (.agg #[.slice pv (s.roots.map (turnN i k)).length cv, .slice (some ⟨bn, 0, none⟩) i i]) (turnG k s) := by
      refine ⟨_, _, rfl, ?_, quads i f, ?_, ?_⟩
      · have := hvr.mono (PH.le_trans hF6 hF7)
        simp only [turnG]
        rw [← hnn]
        exact this
      · have e : (turnG k s).nodes.length = i := by simp only [turnG, List.length_map, List.length_range]; exact hnn.symm
        rw [e]
        exact ⟨some ⟨bn, 0, none⟩, i, rfl, Nat.le_refl _, hnmax, Src.blk hbn hql.symm⟩
      · simp only [turnG]
        rw [← hnn]
        refine each_quads i fun j hj => ?_
        have hmi : (j + i - k) % i < i := Nat.mod_lt _ hn0
        have hmi' : (j + i - k) % i < s.nodes.length := by omega
        have e := List.getElem?_eq_getElem hmi'
        have := hfR _ _ hmi e
        rw [mod_there hj hkn] at this
        rw [e]
        exact this.mono hF7
    have hs7 : Gra F7 (.agg #[.slice p1 s.roots.length c1, .slice q1 i d1]) s := ⟨_, _, rfl, hrt.mono (PH.le_trans hF14 hF47), hnd.mono (PH.le_trans hF14 hF47)⟩
    have hT := turn_turn (g := s) (k := k) (by omega) (by omega)
    have hokt := okg_turn hok k
    simp only [push_cast, ↓reduceIte, Nat.reduceEqDiff, Nat.reduceAdd, Nat.reduceMul, Nat.reduceSub, Nat.reduceLT, Nat.reduceLeDiff, reduceCtorEq, Nat.reduceMod, Int.reduceEq, Int.reduceLT, Int.reduceLE, Int.reduceToNat, dite_true]
    refine VC.draw (.q 0 (.q 2 (.e 1 (.e 3 (.e 4 (.q 5 (.q 6 (.q 8 (.e 7 (.e 9 (.e 10 (.q 11 (.q 12 (.done)))))))))))))) mixed (by rfl) ?_
    simp only [push_cast, ↓reduceIte, Nat.reduceEqDiff, Nat.reduceAdd, Nat.reduceMul, Nat.reduceSub, Nat.reduceLT, Nat.reduceLeDiff, reduceCtorEq, Nat.reduceMod, Int.reduceEq, Int.reduceLT, Int.reduceLE, Int.reduceToNat, dite_true]
    refine CallV.pure (normF F7 _ s hs7 hok) ?_
    intro v8 F8 hF8 h8
    simp only [push_cast, ↓reduceIte, Nat.reduceEqDiff, Nat.reduceAdd, Nat.reduceMul, Nat.reduceSub, Nat.reduceLT, Nat.reduceLeDiff, reduceCtorEq, Nat.reduceMod, Int.reduceEq, Int.reduceLT, Int.reduceLE, Int.reduceToNat, dite_true]
    refine CallV.pure (normF F8 _ (turnG k s) (hx.mono hF8) hokt) ?_
    intro v9 F9 hF9 h9
    rw [hT.norm] at h9
    simp only [push_cast, ↓reduceIte, Nat.reduceEqDiff, Nat.reduceAdd, Nat.reduceMul, Nat.reduceSub, Nat.reduceLT, Nat.reduceLeDiff, reduceCtorEq, Nat.reduceMod, Int.reduceEq, Int.reduceLT, Int.reduceLE, Int.reduceToNat, dite_true]
    refine CallV.pure (sameL F9 _ _ _ _ (h8.mono hF9) h9) ?_
    rintro _ F10 hF10 rfl
    rw [sameGr_refl]
    have hF710 := PH.le_trans hF8 (PH.le_trans hF9 hF10)
    simp only [push_cast, ↓reduceIte, Nat.reduceEqDiff, Nat.reduceAdd, Nat.reduceMul, Nat.reduceSub, Nat.reduceLT, Nat.reduceLeDiff, reduceCtorEq, Nat.reduceMod, Int.reduceEq, Int.reduceLT, Int.reduceLE, Int.reduceToNat, dite_true]
    refine CallV.pure (shortF F10 _ s (hs7.mono hF710) hok) ?_
    intro v11 F11 hF11 h11
    simp only [push_cast, ↓reduceIte, Nat.reduceEqDiff, Nat.reduceAdd, Nat.reduceMul, Nat.reduceSub, Nat.reduceLT, Nat.reduceLeDiff, reduceCtorEq, Nat.reduceMod, Int.reduceEq, Int.reduceLT, Int.reduceLE, Int.reduceToNat, dite_true]
    refine CallV.pure (shortF F11 _ (turnG k s) (hx.mono (PH.le_trans hF710 hF11)) hokt) ?_
    intro v12 F12 hF12 h12
    rw [hT.short] at h12
    simp only [push_cast, ↓reduceIte, Nat.reduceEqDiff, Nat.reduceAdd, Nat.reduceMul, Nat.reduceSub, Nat.reduceLT, Nat.reduceLeDiff, reduceCtorEq, Nat.reduceMod, Int.reduceEq, Int.reduceLT, Int.reduceLE, Int.reduceToNat, dite_true]
    refine CallV.pure (sameL F12 _ _ _ _ (h11.mono hF12) h12) ?_
    rintro _ F13 hF13 rfl
    rw [sameGr_refl]
    simp only [push_cast, ↓reduceIte, Nat.reduceEqDiff, Nat.reduceAdd, Nat.reduceMul, Nat.reduceSub, Nat.reduceLT, Nat.reduceLeDiff, reduceCtorEq, Nat.reduceMod, Int.reduceEq, Int.reduceLT, Int.reduceLE, Int.reduceToNat, dite_true]
    refine VC.go 100 ?_
    simp only [push_cast, ↓reduceIte, Nat.reduceEqDiff, Nat.reduceAdd, Nat.reduceMul, Nat.reduceSub, Nat.reduceLT, Nat.reduceLeDiff, reduceCtorEq, Nat.reduceMod, Int.reduceEq, Int.reduceLT, Int.reduceLE, Int.reduceToNat, dite_true]
    exact RetOk.p rfl rfl
  have h' : (i : Int) < (n : Int) := by omega
  have h0 : (0 : Int) ≤ (i : Int) := by omega
  have ew : IntKind.i64.wrap ((i : Int) + 1) = ((i + 1 : Nat) : Int) := wadd i h hnmax
  have hin : i < s.nodes.length := by omega
  obtain ⟨m, hmdef⟩ : ∃ m, m = s.nodes[i] := ⟨_, rfl⟩
  have hmm : m ∈ s.nodes := by rw [hmdef]; exact List.getElem_mem hin
  have hnd' : Nodes F6 (.slice q1 s.nodes.length d1) s.nodes := by rw [← hnn]; exact hnd.mono (PH.le_trans hF14 hF46)
  obtain ⟨q, _, cs, eq, _, _, kl, kr⟩ := hnd'.elem (by decide) (i := i) (a := s.nodes[i]) (List.getElem?_eq_getElem hin) RNd.len
  cases eq
  rw [← hmdef] at kr
  obtain ⟨un, uk, rfl, hun, huk⟩ := kr
  have hun' := hun
  have huk' := huk
  obtain ⟨pun, cun, rfl, _⟩ := hun
  obtain ⟨puk, cuk, rfl, _⟩ := huk
  have hkl := hsz.kids m hmm
  have hjn : (i + k) % n < n := Nat.mod_lt _ hn0
  obtain ⟨j, hj⟩ : ∃ j, j = (i + k) % n := ⟨_, rfl⟩
  rw [← hj] at hjn
  have hjn' : (j : Int) < (n : Int) := by omega
  have hj0 : (0 : Int) ≤ (j : Int) := by omega
  have hw1 : IntKind.i64.wrap ((i : Int) + (k : Int)) = (i : Int) + (k : Int) := IntWalk.i64_in _ (by omega)
  have ht1 : ((i : Int) + (k : Int)).tmod (n : Int) = (j : Int) := by rw [hj]; rfl
  have hn0' : ¬ (n : Int) = 0 := by omega
  refine VC.go 100 ?_
  simp only [push_cast, ↓reduceIte, Nat.reduceEqDiff, Nat.reduceAdd, Nat.reduceMul, Nat.reduceSub, Nat.reduceLT, Nat.reduceLeDiff, reduceCtorEq, Nat.reduceMod, Int.reduceEq, Int.reduceLT, Int.reduceLE, Int.reduceToNat, dite_true, h', h0, c56, kl]
  intro b10
  refine CallV.sl (hturn F6 hF46 _ m.kids huk' (by omega)) ?_
  intro vk F7 mk hF7 hmk hvk
  obtain rfl : mk = (m.kids.map (turnN n k)).length := by simpa using hmk.symm
  have hvk' : Ints F7 vk (m.kids.map (turnN n k)) := hvk
  obtain ⟨pk, ck, rfl, _⟩ := hvk
  have c57 := hF7.cell c56
  have c67 : F7.cell ⟨b6, 0, none⟩ = some (.int .i64 k) := by rw [cell_one (hF7 _ _ (hF46 _ _ hb6))]; rfl
  have hlen4 : j * 4 + 4 ≤ (quads n f).length := by rw [hql]; omega
  simp only [push_cast, ↓reduceIte, Nat.reduceEqDiff, Nat.reduceAdd, Nat.reduceMul, Nat.reduceSub, Nat.reduceLT, Nat.reduceLeDiff, reduceCtorEq, Nat.reduceMod, Int.reduceEq, Int.reduceLT, Int.reduceLE, Int.reduceToNat, dite_true]
  refine VC.draw (.q 0 (.q 1 (.q 2 (.q 3 (.q 4 (.q 5 (.q 6 (.q 7 (.q 8 (.e 9 (.done))))))))))) mixed (by rfl) ?_
  obtain ⟨c0, hc0⟩ : ∃ c0, c0 = quads n f := ⟨_, rfl⟩
  rw [← hc0] at hlen4 ⊢
  simp only [push_cast, ↓reduceIte, Nat.reduceEqDiff, Nat.reduceAdd, Nat.reduceMul, Nat.reduceSub, Nat.reduceLT, Nat.reduceLeDiff, reduceCtorEq, Nat.reduceMod, Int.reduceEq, Int.reduceLT, Int.reduceLE, Int.reduceToNat, dite_true, c57, c67, hw1, ht1, hn0', hjn', hj0, add_own, hlen4]
  refine VC.go 100 ?_
  simp only [push_cast, ↓reduceIte, Nat.reduceEqDiff, Nat.reduceAdd, Nat.reduceMul, Nat.reduceSub, Nat.reduceLT, Nat.reduceLeDiff, reduceCtorEq, Nat.reduceMod, Int.reduceEq, Int.reduceLT, Int.reduceLE, Int.reduceToNat, dite_true, ew]
  have hset := quads_set hf4 hjn [.int .i64 m.kind, .int .i64 m.info, .slice pun m.nons.length cun, .slice pk (m.kids.map (turnN n k)).length ck] rfl
  rw [hc0, hset]
  refine hG (i + 1, fun x => if x = j then [.int .i64 m.kind, .int .i64 m.info, .slice pun m.nons.length cun, .slice pk (m.kids.map (turnN n k)).length ck] else f x, F7) _ ⟨h, PH.le_trans hF6 hF7, fun x => ?_, fun i' m' hi' hm' => ?_⟩ (by simp; omega) (by simp [subk, Eng.look]) (by simp) rfl rfl
  · dsimp only
    split
    · rfl
    · exact hf4 x
  · dsimp only at hi' ⊢
    by_cases e : i' = i
    · subst e
      have e2 : m' = m := by
        rw [List.getElem?_eq_getElem hin] at hm'
        rw [hmdef]
        exact (Option.some.inj hm').symm
      subst e2
      rw [if_pos hj.symm]
      exact ⟨_, _, rfl, hun'.mono hF7, hvk'⟩
    · have hne : ¬ (i' + k) % n = j := by
        intro e2
        rw [hj] at e2
        have : ((i' + k) % n + n - k) % n = ((i + k) % n + n - k) % n := by rw [e2]
        rw [mod_back (by omega) hkn, mod_back h hkn] at this
        exact e this
      rw [if_neg hne]
      exact (hfR i' m' (by omega) hm').mono hF7
end Go.Proofs.Ythdbmbabfngakaa.G
