/- Graphs: rounds that leave out what is on the way. -/
import Derived.Test.YthdbmbabfngakaaH14
namespace Go.Proofs.Ythdbmbabfngakaa.G
open Go Go.Eng Go.Proofs Go.Proofs.Ythdbmbabfngakaa.T Go.Proofs.Ythdbmbabfngakaa.K
set_option linter.unusedSimpArgs false
set_option linter.unusedVariables false
set_option maxRecDepth 100000
set_option maxHeartbeats 4000000
/-- Not too large. -/
structure Okg (g : Gr) : Prop where
  nodes : g.nodes.length ≤ 1000000
  roots : g.roots.length ≤ 1000000
  kids : ∀ m ∈ g.nodes, m.kids.length ≤ 1000000
  nons : ∀ m ∈ g.nodes, m.nons.length ≤ 17592186044416
  nat : ∀ m ∈ g.nodes, ∀ i ∈ m.nons, 0 ≤ i
theorem norm_mem {g : Gr} {m : Nd} (hm : m ∈ (norm g).nodes) : ∃ m' ∈ g.nodes, m.kids.length = m'.kids.length ∧ m.nons = m'.nons := by
  simp only [norm] at hm
  obtain ⟨k, hk, rfl⟩ := List.mem_map.1 hm
  have hr := (order_met g).rng k hk
  have hj : k.toNat < g.nodes.length := by omega
  rw [List.getElem?_eq_getElem hj]
  exact ⟨_, List.getElem_mem hj, by simp, rfl⟩
theorem Okg.norm {g : Gr} (h : Okg g) : Okg (norm g) := by
  refine ⟨?_, ?_, fun m hm => ?_, fun m hm => ?_, fun m hm => ?_⟩
  · rw [norm_len]; exact Nat.le_trans (order_met g).len h.nodes
  · simp only [G.norm, List.length_map]; exact h.roots
  · obtain ⟨m', h1, h2, h3⟩ := norm_mem hm; rw [h2]; exact h.kids m' h1
  · obtain ⟨m', h1, h2, h3⟩ := norm_mem hm; rw [h3]; exact h.nons m' h1
  · obtain ⟨m', h1, h2, h3⟩ := norm_mem hm; rw [h3]; exact h.nat m' h1
theorem Okg.round {g : Gr} (h : Okg g) : Okg (round g) := by
  refine ⟨by rw [round_len]; exact h.nodes, by simp only [G.round, List.length_map]; exact h.roots, fun m hm => ?_, fun m hm => ?_, fun m hm => ?_⟩
  all_goals
    simp only [G.round] at hm
    obtain ⟨m', hm', rfl⟩ := List.mem_map.1 hm
  · simpa using h.kids m' hm'
  · exact h.nons m' hm'
  · exact h.nat m' hm'
theorem HEach.at {F : PH} : ∀ {l : List Nd} {ks : List (Value × PH)} {xs : List Value}, HEach F l ks xs → ∀ {i : Nat} (h : i < l.length) (h2 : i < ks.length), ∃ vn, (xs.drop (i * 4)).take 4 = [.int .i64 l[i].kind, .int .i64 l[i].info, vn, ks[i].1] ∧ Us F vn l[i].nons ∧ Row ks[i].2 3 1 ks[i].1 (l[i].kids.map (.int .i64))
  | m :: l, ks, xs, ⟨vn, k, ks', xs', h1, h2, h3, h4, h5⟩, 0, h, hk => by
    subst h1 h2
    exact ⟨vn, by simp, h3, h4⟩
  | m :: l, ks, xs, ⟨vn, k, ks', xs', h1, h2, h3, h4, h5⟩, i + 1, h, hk => by
    subst h1 h2
    obtain ⟨vn', k1, k2, k3⟩ := h5.at (i := i) (by simpa using h) (by simpa using hk)
    refine ⟨vn', ?_, by simpa using k2, by simpa using k3⟩
    rw [show (i + 1) * 4 = i * 4 + 1 + 1 + 1 + 1 from by omega]
    simpa using k1
theorem HEach.set {F : PH} {r' : PH} {kl : List Int} : ∀ {l : List Nd} {ks : List (Value × PH)} {xs : List Value}, HEach F l ks xs → ∀ {i : Nat} (h : i < l.length) (h2 : i < ks.length), Row r' 3 1 ks[i].1 (kl.map (.int .i64)) → HEach F (l.set i { l[i] with kids := kl }) (ks.set i (ks[i].1, r')) xs
  | m :: l, ks, xs, ⟨vn, k, ks', xs', h1, h2, h3, h4, h5⟩, 0, h, hk, hr => by
    subst h1 h2
    exact ⟨vn, (k.1, r'), ks', xs', rfl, rfl, h3, hr, h5⟩
  | m :: l, ks, xs, ⟨vn, k, ks', xs', h1, h2, h3, h4, h5⟩, i + 1, h, hk, hr => by
    subst h1 h2
    have hk' : i < ks'.length := by simpa using hk
    exact ⟨vn, k, ks'.set i (ks'[i].1, r'), xs', by simp, rfl, h3, h4, h5.set (i := i) (by simpa using h) (by simpa using hk) (by simpa using hr)⟩
theorem perm_at {α : Type} {l : List α} {i : Nat} (h : i < l.length) (x : α) : l.Perm (l[i] :: (l.take i ++ l.drop (i + 1))) ∧ (x :: (l.take i ++ l.drop (i + 1))).Perm (l.set i x) := by
  constructor
  · have e : l = l.take i ++ l[i] :: l.drop (i + 1) := by rw [List.getElem_cons_drop h, List.take_append_drop]
    exact (List.Perm.of_eq e).trans List.perm_middle
  · rw [List.set_eq_take_append_cons_drop, if_pos h]
    exact List.perm_middle.symm
theorem set_mapdrop {α : Type} (f : α → α) (l : List α) {i : Nat} (h : i < l.length) : ((l.take i).map f ++ l.drop i).set i (f l[i]) = (l.take (i + 1)).map f ++ l.drop (i + 1) := by
  have hA : ((l.take i).map f).length = i := by simp; omega
  rw [List.set_append, if_neg (by omega), hA, Nat.sub_self, List.drop_eq_getElem_cons h, List.set_cons_zero, List.take_succ_eq_append_getElem h, List.map_append, List.append_assoc]
  rfl
/-- Whether a round moves anything. -/
def turned (g : Gr) : Bool := moves (put g) g.roots || g.nodes.any fun m => moves (put g) m.kids
theorem moves_no {e : Int → Int} {l : List Int} : moves e l = false ↔ ∀ x ∈ l, e x = x := by simp [moves]
theorem turned_no {g : Gr} : turned g = false ↔ Clean g := by
  unfold turned Clean
  rw [Bool.or_eq_false_iff, moves_no, List.any_eq_false]
  constructor
  · rintro ⟨h1, h2⟩
    exact ⟨h1, fun m hm => moves_no.1 (by simpa using h2 m hm)⟩
  · rintro ⟨h1, h2⟩
    exact ⟨h1, fun m hm => by simpa using moves_no.2 (h2 m hm)⟩
structure SSt where
  g : Gr
  ch : Bool
  f : Nat
  b3 : Nat
  r0 : PH
  ks : List (Value × PH)
  F : PH
theorem shortG (F : PH) (vg : Value) (g : Gr) (hg : Gra F vg g) (hok : Okg g) : Eng.Fn Try.prog 13 [vg] F [] (Held (short g)) := by
  have hok1 := hok.norm
  have hsm1 : Small (norm g) := norm_small hok.nat
  have hg' := hg
  obtain ⟨vr0, vn0, rfl, hvr0, hvn0⟩ := hg
  obtain ⟨pr0, cr0, rfl, _⟩ := hvr0
  obtain ⟨pn0, cn0, rfl, _⟩ := hvn0.val
  refine Fn.intro (n := 53) (ts := [.cell 2 25]) Try.func13 rfl rfl rfl rfl (by simp) fun B hB => VC.go 100 ?_
  simp only [push_cast, ↓reduceIte, Nat.reduceEqDiff, Nat.reduceAdd, Nat.reduceMul, Nat.reduceSub, Nat.reduceLT, Nat.reduceLeDiff, reduceCtorEq, Nat.reduceMod, Int.reduceEq, Int.reduceLT, Int.reduceLE, Int.reduceToNat, dite_true]
  intro b1 b2
  refine CallV.gen (R1 := []) (Rf := []) (.refl _) (normG F _ g hg' hok.nodes hok.roots hok.kids hok.nons) ?_
  rintro _ F1 _ hF1 ⟨vr, vn, r0, ks, xs, rfl, rfl, hr0, hvn, hks⟩
  obtain ⟨pr, mr, cr, rfl, _⟩ := hr0.len
  obtain ⟨pn, cn, rfl, hn1, hn2, hn3⟩ := hvn
  obtain ⟨N, hN⟩ : ∃ N, N = (norm g).nodes.length := ⟨_, rfl⟩
  rw [← hN] at hn1 hn3 ⊢
  have hNn : N ≤ 1000000 := by rw [hN]; exact hok1.nodes
  simp only [push_cast, ↓reduceIte, Nat.reduceEqDiff, Nat.reduceAdd, Nat.reduceMul, Nat.reduceSub, Nat.reduceLT, Nat.reduceLeDiff, reduceCtorEq, Nat.reduceMod, Int.reduceEq, Int.reduceLT, Int.reduceLE, Int.reduceToNat, dite_true, List.append_nil]
  intro b3
  refine VC.loopW (ι := SSt) (fun s => [(3, .o 2 s.b3 0), (2, .o 1 b2 0), (1, .o 0 b1 0)]) (fun s => [⟨0, b1, 25, [.slice pr mr cr, .slice pn N cn]⟩, ⟨1, b2, 25, [.slice none 0 0, .slice none 0 0]⟩, ⟨2, s.b3, 4, [.bool s.ch]⟩]) (fun s => s.F) (fun s => s.r0 :: s.ks.map Prod.snd)
    (fun s => F1.le s.F ∧ Okg s.g ∧ Small s.g ∧ s.g.nodes.length = N ∧ Row s.r0 3 1 (.slice pr mr cr) (s.g.roots.map (.int .i64)) ∧ HEach s.F s.g.nodes s.ks xs ∧ (s.ch = true → rounds s.f s.g = rounds (N + 2) (norm g) ∧ (Clean s.g ∨ N < s.f + busy s.g)) ∧ (s.ch = false → s.g = rounds (N + 2) (norm g)))
    (fun s => if s.ch then s.f + 1 else 0) ⟨norm g, true, N + 2, b3, r0, ks, F1⟩ ⟨PH.le_refl _, hok1, hsm1, hN.symm, hr0, hks, fun _ => ⟨rfl, .inr (by dsimp only; omega)⟩, fun e => nomatch e⟩ (by simp [subk, Eng.look]) (List.Sublist.refl _) rfl (subR_refl _) ?_
  rintro ⟨x, ch, f, c3, r1, kz, F2⟩ ⟨hF2, hox, hsx, hxN, hr1, hkz, hT, hD⟩ G hG
  dsimp only at hF2 hox hsx hxN hr1 hkz hT hD hG ⊢
  have hlen := hkz.len
  cases ch with
  | false =>
    obtain rfl := hD rfl
    refine VC.go 5 ?_
    simp only [push_cast, ↓reduceIte, Nat.reduceEqDiff, Nat.reduceAdd, Nat.reduceMul, Nat.reduceSub, Nat.reduceLT, Nat.reduceLeDiff, reduceCtorEq, Nat.reduceMod, Int.reduceEq, Int.reduceLT, Int.reduceLE, Int.reduceToNat, dite_true]
    refine VC.freezeAll (r1 :: kz.map Prod.snd) (Rf := []) (by simp) fun F3 hF3 hR3 => VC.go 100 ?_
    have hgra : Gra F3 (.agg #[.slice pr mr cr, .slice pn N cn]) (rounds (N + 2) (norm g)) := Held.gra (R := r1 :: kz.map Prod.snd) ⟨_, _, r1, kz, xs, rfl, rfl, hr1, ⟨pn, cn, by rw [hxN], by rw [hxN]; exact hn1, hn2, by rw [hxN]; exact hn3.mono hF2⟩, hkz⟩ hF3 hR3
    simp only [push_cast, ↓reduceIte, Nat.reduceEqDiff, Nat.reduceAdd, Nat.reduceMul, Nat.reduceSub, Nat.reduceLT, Nat.reduceLeDiff, reduceCtorEq, Nat.reduceMod, Int.reduceEq, Int.reduceLT, Int.reduceLE, Int.reduceToNat, dite_true]
    refine CallV.gen (R1 := []) (Rf := []) (.refl _) (normG F3 _ _ hgra hox.nodes hox.roots hox.kids hox.nons) ?_
    rintro v F4 R4 hF4 hheld
    have hh := hheld
    obtain ⟨vr', vn', r0', ks', xs', rfl, rfl, h1, h2, h3⟩ := hheld
    obtain ⟨_, _, _, rfl, _⟩ := h1.len
    obtain ⟨_, _, rfl, _⟩ := h2
    simp only [push_cast, ↓reduceIte, Nat.reduceEqDiff, Nat.reduceAdd, Nat.reduceMul, Nat.reduceSub, Nat.reduceLT, Nat.reduceLeDiff, reduceCtorEq, Nat.reduceMod, Int.reduceEq, Int.reduceLT, Int.reduceLE, Int.reduceToNat, dite_true, List.append_nil]
    refine RetOk.r (vs := [_]) (by simp only [push_cast, ↓reduceIte, Nat.reduceEqDiff, Nat.reduceAdd, Nat.reduceMul, Nat.reduceSub, Nat.reduceLT, Nat.reduceLeDiff, reduceCtorEq, Nat.reduceMod, Int.reduceEq, Int.reduceLT, Int.reduceLE, Int.reduceToNat, dite_true, rvals, rval1]; rfl) (.refl _) ?_
    unfold short
    rw [← hN]
    exact hh
  | true =>
  obtain ⟨hT1, hT2⟩ := hT rfl
  refine VC.go 100 ?_
  simp only [push_cast, ↓reduceIte, Nat.reduceEqDiff, Nat.reduceAdd, Nat.reduceMul, Nat.reduceSub, Nat.reduceLT, Nat.reduceLeDiff, reduceCtorEq, Nat.reduceMod, Int.reduceEq, Int.reduceLT, Int.reduceLE, Int.reduceToNat, dite_true]
  have hNmax : N ≤ maxLen := Nat.le_trans hn1 hn2
  refine Eff.makeSlice (m := N) rfl ty22 rfl ty3 rfl rfl (by simp; omega) hNmax ?_
  intro b4
  rw [show (madeCells _ _).toList = rng N (fun _ => 0) from made_rng _]
  simp only [push_cast, ↓reduceIte, Nat.reduceEqDiff, Nat.reduceAdd, Nat.reduceMul, Nat.reduceSub, Nat.reduceLT, Nat.reduceLeDiff, reduceCtorEq, Nat.reduceMod, Int.reduceEq, Int.reduceLT, Int.reduceLE, Int.reduceToNat, dite_true]
  refine VC.loopM (ι := Nat × PH) (fun i => [(18, .v (.int .i64 i.1)), (17, .v (.int .i64 N)), (4, .s 3 b4 0 N N), (3, .o 2 c3 0), (2, .o 1 b2 0), (1, .o 0 b1 0)]) (fun i => [⟨0, b1, 25, [.slice pr mr cr, .slice pn N cn]⟩, ⟨1, b2, 25, [.slice none 0 0, .slice none 0 0]⟩, ⟨2, c3, 4, [.bool true]⟩, ⟨3, b4, 3, rng N (fun y => if y < i.1 then nx x y else 0)⟩]) (fun i => i.2) (fun i => i.1 ≤ N ∧ F2.le i.2) (fun i => N - i.1) (0, F2) ⟨Nat.zero_le _, PH.le_refl _⟩ (by simp [subk, Eng.look]) (by simp) rfl ?_
  rintro ⟨i, F3⟩ ⟨hi, hF3⟩ G1 hG1
  dsimp only at hi hF3 hG1 ⊢
  by_cases h : i < N
  · have h' : (i : Int) < (N : Int) := by omega
    have h0 : (0 : Int) ≤ (i : Int) := by omega
    have ew : IntKind.i64.wrap ((i : Int) + 1) = ((i + 1 : Nat) : Int) := wadd i h hNmax
    refine VC.go 100 ?_
    simp only [push_cast, ↓reduceIte, Nat.reduceEqDiff, Nat.reduceAdd, Nat.reduceMul, Nat.reduceSub, Nat.reduceLT, Nat.reduceLeDiff, reduceCtorEq, Nat.reduceMod, Int.reduceEq, Int.reduceLT, Int.reduceLE, Int.reduceToNat, dite_true, h']
    have hQ : (∀ r ∈ r1 :: kz.map Prod.snd, r.le (orAll F3 (r1 :: kz.map Prod.snd))) → PFn Try.prog 27 [.agg #[.slice pr mr cr, .slice pn N cn], .int .i64 i] (orAll F3 (r1 :: kz.map Prod.snd)) (fun v _ => v = .int .i64 (nx x i)) := by
      intro hle
      have hFo := le_orAll (r1 :: kz.map Prod.snd) F3
      refine leadsG _ _ _ x i rfl ?_ hsx h0 (by omega)
      refine ⟨xs, ⟨pn, cn, by rw [hxN], by rw [hxN]; exact hn1, hn2, by rw [hxN]; exact hn3.mono (PH.le_trans hF2 (PH.le_trans hF3 hFo))⟩, ?_⟩
      exact (hkz.mono (PH.le_trans hF3 hFo)).nodes fun k hk => hle _ (List.mem_cons_of_mem _ (List.mem_map_of_mem hk))
    refine CallV.lendAll (Rs := r1 :: kz.map Prod.snd) (Rf := []) (Q := fun v => v = .int .i64 (nx x i)) (by simp) ⟨_, rfl, rfl, rfl⟩ hQ ?_
    rintro _ F4 hF4 rfl
    have hlt : i < (rng N (fun y => if y < i then nx x y else 0)).length := by rw [rng_len]; exact h
    have hset : (rng N (fun y => if y < i then nx x y else 0)).set i (.int .i64 (nx x i)) = rng N (fun y => if y < i + 1 then nx x y else 0) := by
      rw [rng_set]
      congr 1
      funext y
      dsimp only [upd]
      by_cases e : y = i
      · subst e; rw [if_pos rfl, if_pos (by omega)]
      · rw [if_neg e]
        by_cases e2 : y < i
        · rw [if_pos e2, if_pos (by omega)]
        · rw [if_neg e2, if_neg (by omega)]
    obtain ⟨cs, hcs⟩ : ∃ cs, cs = rng N (fun y => if y < i then nx x y else 0) := ⟨_, rfl⟩
    rw [← hcs] at hlt hset ⊢
    simp only [push_cast, ↓reduceIte, Nat.reduceEqDiff, Nat.reduceAdd, Nat.reduceMul, Nat.reduceSub, Nat.reduceLT, Nat.reduceLeDiff, reduceCtorEq, Nat.reduceMod, Int.reduceEq, Int.reduceLT, Int.reduceLE, Int.reduceToNat, dite_true, h', h0, hlt, hset, ew]
    exact hG1 (i + 1, F4) _ ⟨h, PH.le_trans hF3 hF4⟩ (by simp; omega) (by simp [subk, Eng.look]) (List.Sublist.refl _) rfl (by simp)
  have h' : ¬ (i : Int) < (N : Int) := by omega
  obtain rfl : i = N := by omega
  have hnxt : rng i (fun y => if y < i then nx x y else 0) = ((List.range i).map fun k : Nat => nx x k).map (.int .i64) := by
    rw [List.map_map]
    exact rng_congr fun y hy => by rw [if_pos hy]
  rw [hnxt]
  refine VC.go 5 ?_
  simp only [push_cast, ↓reduceIte, Nat.reduceEqDiff, Nat.reduceAdd, Nat.reduceMul, Nat.reduceSub, Nat.reduceLT, Nat.reduceLeDiff, reduceCtorEq, Nat.reduceMod, Int.reduceEq, Int.reduceLT, Int.reduceLE, Int.reduceToNat, dite_true, h']
  refine VC.freeze (m := ⟨3, b4, 3, _⟩) (M := [⟨0, b1, 25, [.slice pr mr cr, .slice pn i cn]⟩, ⟨1, b2, 25, [.slice none 0 0, .slice none 0 0]⟩, ⟨2, c3, 4, [.bool true]⟩]) (List.perm_append_comm (l₁ := [_, _, _]) (l₂ := [_])) fun F4 hF4 hb4 => ?_
  dsimp only at hb4
  refine VC.reL [(4, .v (.slice (some ⟨b4, 0, none⟩) i i)), (3, .o 2 c3 0), (2, .o 1 b2 0), (1, .o 0 b1 0)] (by simp [subv, Eng.look, AV.val]) (VC.go 4 ?_)
  simp only [push_cast, ↓reduceIte, Nat.reduceEqDiff, Nat.reduceAdd, Nat.reduceMul, Nat.reduceSub, Nat.reduceLT, Nat.reduceLeDiff, reduceCtorEq, Nat.reduceMod, Int.reduceEq, Int.reduceLT, Int.reduceLE, Int.reduceToNat, dite_true]
  have hI : Ints F4 (.slice (some ⟨b4, 0, none⟩) i i) ((List.range i).map fun k : Nat => nx x k) := ⟨some ⟨b4, 0, none⟩, i, by simp, by simp, hNmax, Src.blk hb4 (by simp)⟩
  refine CallV.pure (endsG F4 _ i (nx x) hI hNn (fun k h1 h2 => by rw [← hxN]; exact nx_lt hsx k)) ?_
  intro ve F5 hF5 hve
  have hve' : Ints F5 ve ((List.range i).map fun k : Nat => put x k) := by unfold put; rw [hxN]; exact hve
  obtain ⟨pe, ce, rfl, _⟩ := hve
  simp only [push_cast, ↓reduceIte, Nat.reduceEqDiff, Nat.reduceAdd, Nat.reduceMul, Nat.reduceSub, Nat.reduceLT, Nat.reduceLeDiff, reduceCtorEq, Nat.reduceMod, Int.reduceEq, Int.reduceLT, Int.reduceLE, Int.reduceToNat, dite_true]
  intro b6
  refine VC.freeze (m := ⟨4, b6, 22, _⟩) (M := [⟨0, b1, 25, [.slice pr mr cr, .slice pn i cn]⟩, ⟨1, b2, 25, [.slice none 0 0, .slice none 0 0]⟩, ⟨2, c3, 4, [.bool false]⟩]) (List.perm_append_comm (l₁ := [_, _, _]) (l₂ := [_])) fun F6 hF6 hb6 => ?_
  dsimp only at hb6
  have hve6 : Ints F6 (.slice pe ((List.range i).map fun k : Nat => endN (nx x) i k).length ce) ((List.range i).map fun k : Nat => put x k) := hve'.mono hF6
  have hF26 : F2.le F6 := PH.le_trans hF3 (PH.le_trans hF4 (PH.le_trans hF5 hF6))
  have hput : ∀ k : Int, k < 0 → put x k = k := fun k hk => put_neg x hk
  refine VC.reL [(6, .v (.pointer (some ⟨b6, 0, none⟩))), (3, .o 2 c3 0), (2, .o 1 b2 0), (1, .o 0 b1 0)] (by simp [subv, Eng.look, AV.val]) (VC.go 100 ?_)
  simp only [push_cast, ↓reduceIte, Nat.reduceEqDiff, Nat.reduceAdd, Nat.reduceMul, Nat.reduceSub, Nat.reduceLT, Nat.reduceLeDiff, reduceCtorEq, Nat.reduceMod, Int.reduceEq, Int.reduceLT, Int.reduceLE, Int.reduceToNat, dite_true]
  refine CallV.ownGen (i := 2) (R1 := [r1]) (Rf := kz.map Prod.snd) (Q' := fun _ F' cs' R'' => ∃ r', cs' = [.bool (false || moves (put x) x.roots)] ∧ R'' = [r'] ∧ Row r' 3 1 (.slice pr mr cr) ((x.roots.map (put x)).map (.int .i64))) rfl (List.Perm.refl _) (putG F6 c3 b6 i (put x) _ _ r1 x.roots false hr1 hb6 hve6 (fun k hk => by rw [← hxN]; exact hsx.roots k hk) hput) ?_ ?_
  · rintro v F' R' ⟨r', rfl, h1⟩
    exact ⟨_, _, rfl, r', rfl, rfl, h1⟩
  rintro _ F7 cs' R'' hF7 ⟨r2, rfl, rfl, hr2⟩
  simp only [push_cast, ↓reduceIte, Nat.reduceEqDiff, Nat.reduceAdd, Nat.reduceMul, Nat.reduceSub, Nat.reduceLT, Nat.reduceLeDiff, reduceCtorEq, Nat.reduceMod, Int.reduceEq, Int.reduceLT, Int.reduceLE, Int.reduceToNat, dite_true, Bool.false_or]
  refine VC.loopW (ι := Nat × List (Value × PH) × PH) (fun j => [(38, .v (.int .i64 j.1)), (37, .v (.int .i64 i)), (7, .v (.func (.func 29) #[] #[.pointer (some ⟨b6, 0, none⟩), .pointer (some ⟨c3, 0, none⟩)])), (3, .o 2 c3 0), (2, .o 1 b2 0), (1, .o 0 b1 0)]) (fun j => [⟨0, b1, 25, [.slice pr mr cr, .slice pn i cn]⟩, ⟨1, b2, 25, [.slice none 0 0, .slice none 0 0]⟩, ⟨2, c3, 4, [.bool (moves (put x) x.roots || (x.nodes.take j.1).any fun m => moves (put x) m.kids)]⟩]) (fun j => j.2.2) (fun j => r2 :: j.2.1.map Prod.snd)
    (fun j => j.1 ≤ i ∧ F7.le j.2.2 ∧ HEach j.2.2 ((x.nodes.take j.1).map (fun m : Nd => { m with kids := m.kids.map (put x) }) ++ x.nodes.drop j.1) j.2.1 xs) (fun j => i - j.1) (0, kz, F7) ⟨Nat.zero_le _, PH.le_refl _, by simpa using hkz.mono (PH.le_trans hF26 hF7)⟩ (by simp [subk, Eng.look]) (by simp) rfl (subR_refl _) ?_
  rintro ⟨j, kj, F8⟩ ⟨hj, hF8, hkj⟩ G2 hG2
  dsimp only at hj hF8 hkj hG2 ⊢
  have hF28 : F2.le F8 := PH.le_trans hF26 (PH.le_trans hF7 hF8)
  have hlj := hkj.len.2
  rw [List.length_append, List.length_map, List.length_take, List.length_drop, hxN, Nat.min_eq_left hj] at hlj
  by_cases h : j < i
  case neg =>
    have h' : ¬ (j : Int) < (i : Int) := by omega
    rw [List.take_of_length_le (by omega), List.drop_of_length_le (by omega), List.append_nil] at hkj
    rw [List.take_of_length_le (by omega)]
    refine VC.go 9 ?_
    simp only [push_cast, ↓reduceIte, Nat.reduceEqDiff, Nat.reduceAdd, Nat.reduceMul, Nat.reduceSub, Nat.reduceLT, Nat.reduceLeDiff, reduceCtorEq, Nat.reduceMod, Int.reduceEq, Int.reduceLT, Int.reduceLE, Int.reduceToNat, dite_true, h']
    intro d3
    have hround : (round x).nodes = x.nodes.map (fun m : Nd => { m with kids := m.kids.map (put x) }) := rfl
    rw [← hround] at hkj
    have hturn : (moves (put x) x.roots || x.nodes.any fun m => moves (put x) m.kids) = turned x := rfl
    rw [hturn]
    refine VC.renM [(3, .o 2 d3 0), (2, .o 1 b2 0), (1, .o 0 b1 0)] [⟨0, b1, 25, [.slice pr mr cr, .slice pn i cn]⟩, ⟨1, b2, 25, [.slice none 0 0, .slice none 0 0]⟩, ⟨3, c3, 4, [.bool (turned x)]⟩, ⟨2, d3, 4, [.bool (turned x)]⟩] 3 (by simp [subv, Eng.look, AV.val]) rfl (VC.done ?_)
    by_cases hc : Clean x
    · have ht : turned x = false := turned_no.2 hc
      rw [round_clean hc] at hkj
      rw [ht]
      refine hG ⟨x, false, 0, d3, r2, kj, F8⟩ _ ⟨PH.le_trans hF2 hF28, hox, hsx, hxN, ?_, hkj, fun e => (nomatch e), fun _ => ?_⟩ (by simp) (by simp [subk, Eng.look]) (by simp) rfl (subR_refl _)
      · have : x.roots.map (put x) = x.roots := congrArg Gr.roots (round_clean hc)
        rw [this] at hr2
        exact hr2
      · rw [← hT1, rounds_clean hc]
    · have ht : turned x = true := by
        cases e : turned x with
        | true => rfl
        | false => exact absurd (turned_no.1 e) hc
      have hf : i < f + busy x := hT2.resolve_left hc
      have hbl := busy_le x
      obtain ⟨f', rfl⟩ : ∃ f', f = f' + 1 := ⟨f - 1, by omega⟩
      rw [ht]
      refine hG ⟨round x, true, f', d3, r2, kj, F8⟩ _ ⟨PH.le_trans hF2 hF28, hox.round, round_small hsx, by rw [round_len]; exact hxN, hr2, hkj, fun _ => ⟨?_, ?_⟩, fun e => (nomatch e)⟩ (by simp) (by simp [subk, Eng.look]) (by simp) rfl (subR_refl _)
      · rw [← hT1]
        show rounds f' (round x) = rounds (f' + 1) x
        rw [rounds, if_neg hc]
      · by_cases hc2 : Clean (round x)
        · exact .inl hc2
        · have := busy_more hsx hc2
          exact .inr (by dsimp only; omega)
  have h' : (j : Int) < (i : Int) := by omega
  have h0 : (0 : Int) ≤ (j : Int) := by omega
  have ew : IntKind.i64.wrap ((j : Int) + 1) = ((j + 1 : Nat) : Int) := wadd j h hNmax
  have hjx : j < x.nodes.length := by omega
  have hjk : j < kj.length := by omega
  have hjl : j < ((x.nodes.take j).map (fun m : Nd => { m with kids := m.kids.map (put x) }) ++ x.nodes.drop j).length := by simp; omega
  obtain ⟨un, k1, k2, k3⟩ := hkj.at hjl hjk
  have hel : ((x.nodes.take j).map (fun m : Nd => { m with kids := m.kids.map (put x) }) ++ x.nodes.drop j)[j] = x.nodes[j] := by
    rw [List.getElem_append_right (by simp; omega), List.getElem_drop]
    congr 1
    simp
    omega
  rw [hel] at k1 k2 k3
  obtain ⟨qn, rfl, hcells⟩ := (hn3.mono (PH.le_trans hF2 hF28)).elem (i := j) (by omega) (by decide)
  rw [k1] at hcells
  have c3' := cell_at hcells (o := 3) rfl
  obtain ⟨kv, rk⟩ : ∃ kv, kv = kj[j] := ⟨_, rfl⟩
  rw [← rk] at c3' k3
  obtain ⟨kv1, kv2⟩ := kv
  dsimp only at c3' k3
  obtain ⟨pk, mk, ck, rfl, _⟩ := k3.len
  refine VC.go 100 ?_
  simp only [push_cast, ↓reduceIte, Nat.reduceEqDiff, Nat.reduceAdd, Nat.reduceMul, Nat.reduceSub, Nat.reduceLT, Nat.reduceLeDiff, reduceCtorEq, Nat.reduceMod, Int.reduceEq, Int.reduceLT, Int.reduceLE, Int.reduceToNat, dite_true, h', h0, c3']
  obtain ⟨hp1, hp2⟩ := perm_at (l := kj.map Prod.snd) (i := j) (by simpa using hjk) PH.emp
  have hp1' : (r2 :: kj.map Prod.snd).Perm ([kv2] ++ (r2 :: ((kj.map Prod.snd).take j ++ (kj.map Prod.snd).drop (j + 1)))) := by
    have e : (kj.map Prod.snd)[j]'(by simpa using hjk) = kv2 := by rw [List.getElem_map, ← rk]
    rw [e] at hp1
    exact (hp1.cons r2).trans (.swap _ _ _)
  refine CallV.ownGen (i := 2) (R1 := [kv2]) (Rf := r2 :: ((kj.map Prod.snd).take j ++ (kj.map Prod.snd).drop (j + 1))) (Q' := fun _ F' cs' R'' => ∃ r', cs' = [.bool ((moves (put x) x.roots || (x.nodes.take j).any fun m => moves (put x) m.kids) || moves (put x) x.nodes[j].kids)] ∧ R'' = [r'] ∧ Row r' 3 1 (.slice pk mk ck) ((x.nodes[j].kids.map (put x)).map (.int .i64))) rfl hp1' (putG F8 c3 b6 i (put x) _ _ kv2 x.nodes[j].kids _ k3 (hF8 _ _ (hF7 _ _ hb6)) (hve6.mono (PH.le_trans hF7 hF8)) (fun k hk => by rw [← hxN]; exact hsx.kids _ (List.getElem_mem hjx) k hk) hput) ?_ ?_
  · rintro v F' R' ⟨r', rfl, h1⟩
    exact ⟨_, _, rfl, r', rfl, rfl, h1⟩
  rintro _ F9 cs' R'' hF9 ⟨r3, rfl, rfl, hr3⟩
  simp only [push_cast, ↓reduceIte, Nat.reduceEqDiff, Nat.reduceAdd, Nat.reduceMul, Nat.reduceSub, Nat.reduceLT, Nat.reduceLeDiff, reduceCtorEq, Nat.reduceMod, Int.reduceEq, Int.reduceLT, Int.reduceLE, Int.reduceToNat, dite_true, ew]
  refine hG2 (j + 1, kj.set j (kj[j].1, r3), F9) _ ⟨h, PH.le_trans hF8 hF9, ?_⟩ (by simp; omega) (by simp [subk, Eng.look]) ?_ rfl ?_
  · have := (hkj.mono hF9).set hjl hjk (r' := r3) (kl := x.nodes[j].kids.map (put x)) (by rw [← rk]; exact hr3)
    rw [hel] at this
    have hsm := set_mapdrop (fun m : Nd => { m with kids := m.kids.map (put x) }) x.nodes hjx
    rw [hsm] at this
    exact this
  · dsimp only
    rw [List.take_succ_eq_append_getElem hjx, List.any_append]
    simp [Bool.or_assoc]
  · refine subR_perm ?_
    have hs := (perm_at (l := kj.map Prod.snd) (i := j) (by simpa using hjk) r3).2
    dsimp only
    rw [List.map_set]
    exact (List.Perm.swap _ _ _).trans (hs.cons r2)
end Go.Proofs.Ythdbmbabfngakaa.G
