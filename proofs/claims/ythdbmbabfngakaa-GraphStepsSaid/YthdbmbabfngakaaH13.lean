/- Graphs: where going on ends. -/
import Derived.Test.YthdbmbabfngakaaH12
namespace Go.Proofs.Ythdbmbabfngakaa.G
open Go Go.Eng Go.Proofs Go.Proofs.Ythdbmbabfngakaa.T Go.Proofs.Ythdbmbabfngakaa.K
set_option linter.unusedSimpArgs false
set_option linter.unusedVariables false
set_option maxRecDepth 100000
set_option maxHeartbeats 4000000
/-- A row of integers, by place. -/
def rng (n : Nat) (f : Nat → Int) : List Value := (List.range n).map fun x => Value.int .i64 (f x)
def upd (f : Nat → Int) (a : Nat) (v : Int) : Nat → Int := fun x => if x = a then v else f x
theorem rng_len (n : Nat) (f : Nat → Int) : (rng n f).length = n := by simp [rng]
theorem rng_get {n a : Nat} (f : Nat → Int) (h : a < n) : (rng n f)[a]? = some (.int .i64 (f a)) := by simp [rng, h]
theorem rng_set (n : Nat) (f : Nat → Int) (a : Nat) (v : Int) : (rng n f).set a (.int .i64 v) = rng n (upd f a v) := by
  refine List.ext_getElem? fun i => ?_
  rw [List.getElem?_set]
  by_cases hi : i < n
  · have e1 := rng_get f hi
    have e2 := rng_get (upd f a v) hi
    rw [e2, e1]
    by_cases h : a = i
    · subst h; simp [upd, rng_len, hi]
    · simp [h, upd, Ne.symm h]
  · have h1 : (rng n f)[i]? = none := List.getElem?_eq_none (by rw [rng_len]; omega)
    have h2 : (rng n (upd f a v))[i]? = none := List.getElem?_eq_none (by rw [rng_len]; omega)
    rw [h1, h2, rng_len]
    split
    · split
      · omega
      · rfl
    · rfl
theorem made_rng (n : Nat) : (madeCells (Value.int .i64 0).cells (n * 1)).toList = rng n (fun _ => 0) := by
  rw [made_ints]
  refine List.ext_getElem? fun i => ?_
  by_cases hi : i < n
  · rw [rng_get _ hi]; simp [hi]
  · rw [List.getElem?_eq_none (by simp; omega), List.getElem?_eq_none (by rw [rng_len]; omega)]
theorem rng_congr {n : Nat} {f g : Nat → Int} (h : ∀ x, x < n → f x = g x) : rng n f = rng n g := List.map_congr_left fun x hx => by rw [h x (List.mem_range.1 hx)]
structure ESt where
  path : List Nat
  st : Nat → Int
  a : Nat
  vp : Value
  rp : PH
  F : PH
theorem endsG (F : PH) (vl : Value) (n : Nat) (nx : Int → Int) (hl : Ints F vl ((List.range n).map fun k : Nat => nx k)) (hn : n ≤ 1000000) (hnx : ∀ k : Int, 0 ≤ k → k < n → nx k < n) :
    PFn Try.prog 28 [vl] F (fun v F' => Ints F' v ((List.range n).map fun k : Nat => endN nx n k)) := by
  obtain ⟨px, cx, rfl, hx1, hx2, hx3⟩ := hl
  simp only [List.length_map, List.length_range, List.map_map] at hx1 hx3
  simp only [List.length_map, List.length_range]
  have hx1' : n ≤ maxLen := Nat.le_trans hx1 hx2
  have hnext : ∀ F' : PH, F.le F' → ∀ a : Nat, a < n → ∃ q, px = some q ∧ F'.cell (q.add a) = some (.int .i64 (nx a)) := fun F' hF a ha => (hx3.mono hF).elem1 (i := a) (v := .int .i64 (nx a)) (by simp [ha])
  refine Fn.intro (n := 98) (ts := [2]) Try.func28 rfl rfl rfl rfl (by simp) fun B hB => VC.go 100 ?_
  simp only [push_cast, ↓reduceIte, Nat.reduceEqDiff, Nat.reduceAdd, Nat.reduceMul, Nat.reduceSub, Nat.reduceLT, Nat.reduceLeDiff, reduceCtorEq, Nat.reduceMod, Int.reduceEq, Int.reduceLT, Int.reduceLE, Int.reduceToNat, dite_true]
  refine Eff.makeSlice (m := n) rfl ty22 rfl ty3 rfl rfl (by simp; omega) hx1' ?_
  intro bo
  rw [show (madeCells _ _).toList = rng n (fun _ => 0) from made_rng _]
  simp only [push_cast, ↓reduceIte, Nat.reduceEqDiff, Nat.reduceAdd, Nat.reduceMul, Nat.reduceSub, Nat.reduceLT, Nat.reduceLeDiff, reduceCtorEq, Nat.reduceMod, Int.reduceEq, Int.reduceLT, Int.reduceLE, Int.reduceToNat, dite_true]
  refine Eff.makeSlice (m := n) rfl ty22 rfl ty3 rfl rfl (by simp; omega) hx1' ?_
  intro bs
  rw [show (madeCells _ _).toList = rng n (fun _ => 0) from made_rng _]
  simp only [push_cast, ↓reduceIte, Nat.reduceEqDiff, Nat.reduceAdd, Nat.reduceMul, Nat.reduceSub, Nat.reduceLT, Nat.reduceLeDiff, reduceCtorEq, Nat.reduceMod, Int.reduceEq, Int.reduceLT, Int.reduceLE, Int.reduceToNat, dite_true]
  refine VC.loopM (ι := Nat × (Nat → Int) × (Nat → Int) × PH) (fun i => [(19, .v (.int .i64 i.1)), (18, .v (.int .i64 n)), (4, .s 1 bs 0 n n), (3, .s 0 bo 0 n n), (0, .v (.slice px n cx))]) (fun i => [⟨0, bo, 3, rng n i.2.2.1⟩, ⟨1, bs, 3, rng n i.2.1⟩]) (fun i => i.2.2.2)
    (fun i => i.1 ≤ n ∧ F.le i.2.2.2 ∧ (∀ x, x < n → i.2.1 x = 0 ∨ (i.2.1 x = 2 ∧ i.2.2.1 x = endN nx n x)) ∧ ∀ x, x < i.1 → i.2.1 x = 2) (fun i => n - i.1) (0, fun _ => 0, fun _ => 0, F) ⟨Nat.zero_le _, PH.le_refl _, fun _ _ => .inl rfl, fun x h => absurd h (by simp)⟩ (by simp [subk, Eng.look]) (List.Sublist.refl _) rfl ?_
  rintro ⟨i, st0, ou, F1⟩ ⟨hi, hF1, hst0, hdone⟩ G hG
  dsimp only at hi hF1 hst0 hdone hG ⊢
  by_cases h : i < n
  case neg =>
    have h' : ¬ (i : Int) < (n : Int) := by omega
    obtain rfl : i = n := by omega
    have e : rng i ou = ((List.range i).map fun k : Nat => endN nx i k).map (.int .i64) := by
      rw [List.map_map]
      exact rng_congr fun x hx => by
        rcases hst0 x hx with h0 | h0
        · rw [hdone x hx] at h0; cases h0
        · exact h0.2
    refine VC.freeze (m := ⟨0, bo, 3, rng i ou⟩) (List.Perm.refl _) fun F3 hF3 hb => VC.reL [(19, .v (.int .i64 i)), (18, .v (.int .i64 i)), (3, .v (.slice (some ⟨bo, 0, none⟩) i i))] (by simp [subv, Eng.look, AV.val]) (VC.go 100 ?_)
    dsimp only at hb
    simp only [push_cast, ↓reduceIte, Nat.reduceEqDiff, Nat.reduceAdd, Nat.reduceMul, Nat.reduceSub, Nat.reduceLT, Nat.reduceLeDiff, reduceCtorEq, Nat.reduceMod, Int.reduceEq, Int.reduceLT, Int.reduceLE, Int.reduceToNat, dite_true, h']
    refine RetOk.p rfl ?_
    rw [e] at hb
    exact ⟨some ⟨bo, 0, none⟩, i, by simp; rfl, by simp, hx1', Src.blk hb (by simp)⟩
  have h' : (i : Int) < (n : Int) := by omega
  have h0 : (0 : Int) ≤ (i : Int) := by omega
  have e2 : IntKind.i64.wrap ((i : Int) + 1) = ((i + 1 : Nat) : Int) := wadd i h hx1'
  refine VC.emp (VC.go 14 ?_)
  simp only [push_cast, ↓reduceIte, Nat.reduceEqDiff, Nat.reduceAdd, Nat.reduceMul, Nat.reduceSub, Nat.reduceLT, Nat.reduceLeDiff, reduceCtorEq, Nat.reduceMod, Int.reduceEq, Int.reduceLT, Int.reduceLE, Int.reduceToNat, dite_true, h', h0]
  refine VC.cutW (ι := ESt) (fun s => [(7, .v (.int .i64 s.a)), (6, .v s.vp), (5, .v (.int .i64 i)), (19, .v (.int .i64 i)), (18, .v (.int .i64 n)), (4, .s 1 bs 0 n n), (3, .s 0 bo 0 n n), (0, .v (.slice px n cx))]) (fun s => [⟨0, bo, 3, rng n ou⟩, ⟨1, bs, 3, rng n s.st⟩]) (fun s => s.F) (fun s => [s.rp])
    (fun s => F1.le s.F ∧ s.a < n ∧ Row s.rp 3 1 s.vp (s.path.map fun x : Nat => Value.int .i64 x) ∧ s.path.Nodup ∧ (∀ x, x < n → s.st x = if x ∈ s.path then 1 else st0 x) ∧ (∀ x ∈ s.path, x < n ∧ st0 x = 0 ∧ 0 ≤ nx x ∧ endN nx n x = endN nx n s.a ∧ (nx x = s.a ∨ ∃ y ∈ s.path, nx x = (y : Nat))) ∧ ((s.path = [] ∧ s.a = i) ∨ i ∈ s.path) ∧ ¬ (s.st s.a = 0 ∧ 0 ≤ nx s.a)) ?_ ?_
  · intro G2 hG2
    refine VC.block ?_
    refine VC.loopW (ι := ESt) (fun s => [(7, .v (.int .i64 s.a)), (6, .v s.vp), (5, .v (.int .i64 i)), (19, .v (.int .i64 i)), (18, .v (.int .i64 n)), (4, .s 1 bs 0 n n), (3, .s 0 bo 0 n n), (0, .v (.slice px n cx))]) (fun s => [⟨0, bo, 3, rng n ou⟩, ⟨1, bs, 3, rng n s.st⟩]) (fun s => s.F) (fun s => [s.rp])
      (fun s => F1.le s.F ∧ s.a < n ∧ Row s.rp 3 1 s.vp (s.path.map fun x : Nat => Value.int .i64 x) ∧ s.path.Nodup ∧ (∀ x, x < n → s.st x = if x ∈ s.path then 1 else st0 x) ∧ (∀ x ∈ s.path, x < n ∧ st0 x = 0 ∧ 0 ≤ nx x ∧ endN nx n x = endN nx n s.a ∧ (nx x = s.a ∨ ∃ y ∈ s.path, nx x = (y : Nat))) ∧ ((s.path = [] ∧ s.a = i) ∨ i ∈ s.path))
      (fun s => n - s.path.length) ⟨[], st0, i, .slice none 0 0, PH.emp, F1⟩ ⟨PH.le_refl _, h, Row.nil _ _, List.nodup_nil, by simp, by simp, .inl ⟨rfl, rfl⟩⟩ (by simp [subk, Eng.look]) (List.Sublist.refl _) rfl (subR_refl _) ?_
    rintro ⟨path, st, a, vp, rp, F2⟩ ⟨hF2, ha, hrp, hnd, hst, hpath, hpi⟩ G1 hG1
    dsimp only at hF2 ha hrp hnd hst hpath hpi hG1 ⊢
    have hF02 := PH.le_trans hF1 hF2
    obtain ⟨qn, rfl, hqn⟩ := hnext F2 hF02 a ha
    have hpl : path.length ≤ n := nodup_bound n path hnd fun x hx => (hpath x hx).1
    have ha' : (a : Int) < (n : Int) := by omega
    have ha0 : (0 : Int) ≤ (a : Int) := by omega
    have gst := rng_get st ha
    obtain ⟨pp, mp, cp, rfl, hmp, hmp1, hmp2⟩ := hrp.len
    obtain rfl : mp = path.length := by simpa using hmp.symm
    have hext := hnx a (by omega) ha'
    by_cases hgo : st a = 0 ∧ 0 ≤ nx a
    · obtain ⟨g1, g2⟩ := hgo
      have hap : a ∉ path := fun hm => by rw [hst a ha, if_pos hm] at g1; cases g1
      have hst0a : st0 a = 0 := by rw [hst a ha, if_neg hap] at g1; exact g1
      have hlt : a < (rng n st).length := by rw [rng_len]; exact ha
      have hset := rng_set n st a 1
      refine VC.go 100 ?_
      simp only [push_cast, ↓reduceIte, Nat.reduceEqDiff, Nat.reduceAdd, Nat.reduceMul, Nat.reduceSub, Nat.reduceLT, Nat.reduceLeDiff, reduceCtorEq, Nat.reduceMod, Int.reduceEq, Int.reduceLT, Int.reduceLE, Int.reduceToNat, dite_true, h', ha', ha0, gst, hqn, eq_true g1, eq_true g2, hlt, hset]
      intro b40 F3 hF3 hb40
      refine Eff.append (ys := [.int .i64 a]) rfl rfl rfl ty22 rfl ty3 rfl (by decide) rfl rfl (List.Perm.refl _) hrp (Src.blk hb40 rfl) (by simp [Value.oneCell']) (by simp; omega) (by decide) ?_
      intro vp2 rp2 hrp2
      obtain ⟨q2, e2', hq2⟩ := hnext F3 (PH.le_trans hF02 hF3) a ha
      cases e2'
      obtain ⟨b, hb⟩ : ∃ b : Nat, nx a = b := ⟨(nx a).toNat, by omega⟩
      simp only [push_cast, ↓reduceIte, Nat.reduceEqDiff, Nat.reduceAdd, Nat.reduceMul, Nat.reduceSub, Nat.reduceLT, Nat.reduceLeDiff, reduceCtorEq, Nat.reduceMod, Int.reduceEq, Int.reduceLT, Int.reduceLE, Int.reduceToNat, dite_true, h', ha', ha0, hq2]
      have hstep := endN_step hnx (k := (a : Int)) ha0 ha' g2
      refine hG1 ⟨path ++ [a], upd st a 1, b, vp2, rp2, F3⟩ _ ⟨PH.le_trans hF2 hF3, by dsimp only; omega, ?_, ?_, ?_, ?_, ?_⟩ ?_ (by simp [subk, Eng.look, hb]) (List.Sublist.refl _) rfl (subR_refl _)
      · dsimp only; rw [List.map_append]; exact hrp2
      · dsimp only
        rw [List.nodup_append]
        exact ⟨hnd, by simp, fun x hx y hy => by rw [List.mem_singleton.1 hy]; rintro rfl; exact hap hx⟩
      · intro x hx
        dsimp only [upd]
        by_cases e : x = a
        · subst e; simp
        · rw [if_neg e, hst x hx]; simp [e]
      · intro x hx
        dsimp only at hx ⊢
        rcases List.mem_append.1 hx with hx | hx
        · obtain ⟨k1, k2, k3, k4, k5⟩ := hpath x hx
          refine ⟨k1, k2, k3, by rw [k4, hstep, hb], .inr ?_⟩
          rcases k5 with k5 | ⟨y, k5, k6⟩
          · exact ⟨a, by simp, k5⟩
          · exact ⟨y, List.mem_append_left _ k5, k6⟩
        · obtain rfl := List.mem_singleton.1 hx
          exact ⟨ha, hst0a, g2, by rw [hstep, hb], .inl hb⟩
      · right
        rcases hpi with ⟨e, rfl⟩ | hpi
        · simp
        · exact List.mem_append_left _ hpi
      · have : (path ++ [a]).length ≤ n := nodup_bound n _ (by
          rw [List.nodup_append]
          exact ⟨hnd, by simp, fun x hx y hy => by rw [List.mem_singleton.1 hy]; rintro rfl; exact hap hx⟩) (fun x hx => by
          rcases List.mem_append.1 hx with hx | hx
          · exact (hpath x hx).1
          · rw [List.mem_singleton.1 hx]; exact ha)
        simp at this ⊢
        omega
    rw [Classical.not_and_iff_not_or_not] at hgo
    rcases Classical.em (st a = 0) with g1 | g1
    · have g2 : ¬ 0 ≤ nx a := by rcases hgo with g | g; exact absurd g1 g; exact g
      refine VC.go 100 ?_
      simp only [push_cast, ↓reduceIte, Nat.reduceEqDiff, Nat.reduceAdd, Nat.reduceMul, Nat.reduceSub, Nat.reduceLT, Nat.reduceLeDiff, reduceCtorEq, Nat.reduceMod, Int.reduceEq, Int.reduceLT, Int.reduceLE, Int.reduceToNat, dite_true, h', ha', ha0, gst, hqn, eq_true g1, g2]
      exact hG2 ⟨path, st, a, .slice pp path.length cp, rp, F2⟩ _ ⟨hF2, ha, hrp, hnd, hst, hpath, hpi, fun e => g2 e.2⟩ (by simp [subk, Eng.look]) (List.Sublist.refl _) rfl (subR_refl _)
    · refine VC.go 100 ?_
      simp only [push_cast, ↓reduceIte, Nat.reduceEqDiff, Nat.reduceAdd, Nat.reduceMul, Nat.reduceSub, Nat.reduceLT, Nat.reduceLeDiff, reduceCtorEq, Nat.reduceMod, Int.reduceEq, Int.reduceLT, Int.reduceLE, Int.reduceToNat, dite_true, h', ha', ha0, gst, g1]
      exact hG2 ⟨path, st, a, .slice pp path.length cp, rp, F2⟩ _ ⟨hF2, ha, hrp, hnd, hst, hpath, hpi, fun e => g1 e.1⟩ (by simp [subk, Eng.look]) (List.Sublist.refl _) rfl (subR_refl _)
  rintro ⟨path, st, a, vp, rp, F2⟩ ⟨hF2, ha, hrp, hnd, hst, hpath, hpi, hend⟩
  dsimp only at hF2 ha hrp hnd hst hpath hpi hend ⊢
  refine VC.freezeR (List.Perm.refl _) fun F3 hF3 hrp3 => VC.go 3 ?_
  simp only [push_cast, ↓reduceIte, Nat.reduceEqDiff, Nat.reduceAdd, Nat.reduceMul, Nat.reduceSub, Nat.reduceLT, Nat.reduceLeDiff, reduceCtorEq, Nat.reduceMod, Int.reduceEq, Int.reduceLT, Int.reduceLE, Int.reduceToNat, dite_true]
  refine VC.cutM (ι := (Nat → Int) × (Nat → Int) × Int) (fun j => [(8, .v (.int .i64 j.2.2)), (6, .v vp), (19, .v (.int .i64 i)), (18, .v (.int .i64 n)), (4, .s 1 bs 0 n n), (3, .s 0 bo 0 n n), (0, .v (.slice px n cx))]) (fun j => [⟨0, bo, 3, rng n j.1⟩, ⟨1, bs, 3, rng n j.2.1⟩]) (fun _ => F3)
    (fun j => j.2.2 = endN nx n a ∧ (∀ x, x < n → x ∉ path → j.2.1 x = 0 ∨ (j.2.1 x = 2 ∧ j.1 x = endN nx n x)) ∧ (∀ x, x < i → x ∉ path → j.2.1 x = 2) ∧ (i ∉ path → j.2.1 i = 2)) ?_ ?_
  · intro G2 hG2
    have ha' : (a : Int) < (n : Int) := by omega
    have ha0 : (0 : Int) ≤ (a : Int) := by omega
    have gst := rng_get st ha
    have gou := rng_get ou ha
    obtain ⟨qn, rfl, hqn⟩ := hnext F3 (PH.le_trans hF1 (PH.le_trans hF2 hF3)) a ha
    have hlt1 : a < (rng n st).length := by rw [rng_len]; exact ha
    have hlt2 : a < (rng n ou).length := by rw [rng_len]; exact ha
    have hset1 := fun v => rng_set n st a v
    have hset2 := fun v => rng_set n ou a v
    have same : ∀ x, x < n → x ∉ path → st x = st0 x := fun x hx hp => by rw [hst x hx, if_neg hp]
    by_cases g2 : st a = 2
    · have hap : a ∉ path := fun hm => by rw [hst a ha, if_pos hm] at g2; cases g2
      refine VC.go 100 ?_
      simp only [push_cast, ↓reduceIte, Nat.reduceEqDiff, Nat.reduceAdd, Nat.reduceMul, Nat.reduceSub, Nat.reduceLT, Nat.reduceLeDiff, reduceCtorEq, Nat.reduceMod, Int.reduceEq, Int.reduceLT, Int.reduceLE, Int.reduceToNat, dite_true, ha', ha0, gst, eq_true g2, gou]
      refine hG2 (ou, st, ou a) _ ⟨?_, fun x hx hp => ?_, fun x hx hp => ?_, fun hp => ?_⟩ (by simp [subk, Eng.look]) (List.Sublist.refl _) rfl rfl
      · rcases hst0 a ha with k | k
        · rw [← same a ha hap, g2] at k; cases k
        · exact k.2
      · show st x = 0 ∨ (st x = 2 ∧ ou x = _); rw [same x hx hp]; exact hst0 x hx
      · show st x = 2; rw [same x (by omega) hp]; exact hdone x hx
      · rcases hpi with ⟨_, rfl⟩ | hpi
        · exact g2
        · exact absurd hpi hp
    by_cases g1 : st a = 1
    · have hap : a ∈ path := Classical.byContradiction fun hm => by
        rw [same a ha hm] at g1
        rcases hst0 a ha with k | k
        · rw [k] at g1; cases g1
        · rw [k.1] at g1; cases g1
      refine VC.go 100 ?_
      simp only [push_cast, ↓reduceIte, Nat.reduceEqDiff, Nat.reduceAdd, Nat.reduceMul, Nat.reduceSub, Nat.reduceLT, Nat.reduceLeDiff, reduceCtorEq, Nat.reduceMod, Int.reduceEq, Int.reduceLT, Int.reduceLE, Int.reduceToNat, dite_true, ha', ha0, gst, g2, eq_true g1]
      refine hG2 (ou, st, -2) _ ⟨?_, fun x hx hp => ?_, fun x hx hp => ?_, fun hp => ?_⟩ (by simp [subk, Eng.look]) (List.Sublist.refl _) rfl rfl
      · refine (endN_round (l := path.map fun x : Nat => (x : Int)) ha0 (fun x hx => ?_) (List.mem_map_of_mem hap)).symm
        obtain ⟨y, hy, rfl⟩ := List.mem_map.1 hx
        obtain ⟨_, _, k3, _, k5⟩ := hpath y hy
        refine ⟨by omega, k3, ?_⟩
        rcases k5 with k5 | ⟨z, k5, k6⟩
        · rw [k5]; exact List.mem_map_of_mem hap
        · rw [k6]; exact List.mem_map_of_mem k5
      · show st x = 0 ∨ (st x = 2 ∧ ou x = _); rw [same x hx hp]; exact hst0 x hx
      · show st x = 2; rw [same x (by omega) hp]; exact hdone x hx
      · rcases hpi with ⟨e, _⟩ | hpi
        · rw [e] at hap; cases hap
        · exact absurd hpi hp
    have hap : a ∉ path := fun hm => g1 (by rw [hst a ha, if_pos hm])
    have g0 : st a = 0 := by
      rcases hst0 a ha with k | k
      · rw [same a ha hap]; exact k
      · exact absurd ((same a ha hap).trans k.1) g2
    have hneg : nx a < 0 := Classical.byContradiction fun e => hend ⟨g0, by omega⟩
    have fin : ∀ v : Int, v = endN nx n a → ∀ S' : St, subk S'.L [(8, .v (.int .i64 v)), (6, .v vp), (19, .v (.int .i64 i)), (18, .v (.int .i64 n)), (4, .s 1 bs 0 n n), (3, .s 0 bo 0 n n), (0, .v (.slice (some qn) n cx))] → [⟨0, bo, 3, rng n (upd ou a v)⟩, ⟨1, bs, 3, rng n (upd st a 2)⟩].Sublist S'.M → S'.F = F3 → S'.R = [] → G2 S' := by
      intro v hv S' k1 k2 k3 k4
      refine hG2 (upd ou a v, upd st a 2, v) S' ⟨hv, fun x hx hp => ?_, fun x hx hp => ?_, fun hp => ?_⟩ k1 k2 k3 k4
      · dsimp only [upd]
        by_cases e : x = a
        · rw [if_pos e, if_pos e, e]; exact .inr ⟨rfl, hv⟩
        · rw [if_neg e, if_neg e, same x hx hp]; exact hst0 x hx
      · dsimp only [upd]
        by_cases e : x = a
        · rw [if_pos e]
        · rw [if_neg e, same x (by omega) hp]; exact hdone x hx
      · dsimp only [upd]
        rcases hpi with ⟨_, e⟩ | hpi
        · rw [if_pos e.symm]
        · exact absurd hpi hp
    by_cases gl : nx a = -2
    · refine VC.go 100 ?_
      simp only [push_cast, ↓reduceIte, Nat.reduceEqDiff, Nat.reduceAdd, Nat.reduceMul, Nat.reduceSub, Nat.reduceLT, Nat.reduceLeDiff, reduceCtorEq, Nat.reduceMod, Int.reduceEq, Int.reduceLT, Int.reduceLE, Int.reduceToNat, dite_true, ha', ha0, gst, g2, g1, hqn, eq_true gl, hlt1, hlt2, hset1, hset2]
      exact fin (-2) (endN_lost ha0 gl).symm _ (by simp [subk, Eng.look]) (List.Sublist.refl _) rfl rfl
    · refine VC.go 100 ?_
      simp only [push_cast, ↓reduceIte, Nat.reduceEqDiff, Nat.reduceAdd, Nat.reduceMul, Nat.reduceSub, Nat.reduceLT, Nat.reduceLeDiff, reduceCtorEq, Nat.reduceMod, Int.reduceEq, Int.reduceLT, Int.reduceLE, Int.reduceToNat, dite_true, ha', ha0, gst, g2, g1, hqn, gl, hlt1, hlt2, hset1, hset2]
      exact fin a (endN_stop ha0 hneg gl).symm _ (by simp [subk, Eng.look]) (List.Sublist.refl _) rfl rfl
  rintro ⟨ou2, st2, e⟩ ⟨he, hs1, hs2, hs3⟩
  dsimp only at he hs1 hs2 hs3 ⊢
  obtain ⟨mp, hmp, hsl⟩ := hrp.sl hrp3
  obtain rfl : mp = path.length := by simpa using hmp.symm
  obtain ⟨pp, cp, rfl, hp1, hp2, hp3⟩ := hsl
  refine VC.go 100 ?_
  simp only [push_cast, ↓reduceIte, Nat.reduceEqDiff, Nat.reduceAdd, Nat.reduceMul, Nat.reduceSub, Nat.reduceLT, Nat.reduceLeDiff, reduceCtorEq, Nat.reduceMod, Int.reduceEq, Int.reduceLT, Int.reduceLE, Int.reduceToNat, dite_true]
  refine VC.loopM (ι := Nat) (fun j => [(84, .v (.int .i64 j)), (83, .v (.int .i64 path.length)), (82, .v (.slice pp path.length cp)), (8, .v (.int .i64 e)), (19, .v (.int .i64 i)), (18, .v (.int .i64 n)), (4, .s 1 bs 0 n n), (3, .s 0 bo 0 n n), (0, .v (.slice px n cx))]) (fun j => [⟨0, bo, 3, rng n (fun x => if x ∈ path.take j then e else ou2 x)⟩, ⟨1, bs, 3, rng n (fun x => if x ∈ path.take j then 2 else st2 x)⟩]) (fun _ => F3) (fun j => j ≤ path.length) (fun j => path.length - j) 0 (Nat.zero_le _) (by simp [subk, Eng.look]) (by simp) rfl ?_
  intro j hj G2 hG2
  dsimp only at hG2 ⊢
  by_cases hjj : j < path.length
  case neg =>
    have hjj' : ¬ (j : Int) < (path.length : Int) := by omega
    refine VC.go 100 ?_
    simp only [push_cast, ↓reduceIte, Nat.reduceEqDiff, Nat.reduceAdd, Nat.reduceMul, Nat.reduceSub, Nat.reduceLT, Nat.reduceLeDiff, reduceCtorEq, Nat.reduceMod, Int.reduceEq, Int.reduceLT, Int.reduceLE, Int.reduceToNat, dite_true, hjj', e2]
    rw [List.take_of_length_le (by omega)]
    refine hG (i + 1, fun x => if x ∈ path then 2 else st2 x, fun x => if x ∈ path then e else ou2 x, F3) _ ⟨h, PH.le_trans hF1 (PH.le_trans hF2 hF3), fun x hx => ?_, fun x hx => ?_⟩ (by simp; omega) (by simp [subk, Eng.look]) (List.Sublist.refl _) rfl rfl
    · dsimp only
      by_cases hp : x ∈ path
      · rw [if_pos hp, if_pos hp]; exact .inr ⟨rfl, by rw [(hpath x hp).2.2.2.1]; exact he⟩
      · rw [if_neg hp, if_neg hp]; exact hs1 x hx hp
    · dsimp only at hx ⊢
      by_cases hp : x ∈ path
      · rw [if_pos hp]
      · rw [if_neg hp]
        rcases Nat.lt_or_ge x i with hxi | hxi
        · exact hs2 x hxi hp
        · obtain rfl : x = i := by omega
          exact hs3 hp
  have hjj' : (j : Int) < (path.length : Int) := by omega
  have hj0 : (0 : Int) ≤ (j : Int) := by omega
  have ej : IntKind.i64.wrap ((j : Int) + 1) = ((j + 1 : Nat) : Int) := wadd j hjj (Nat.le_trans hp1 hp2)
  obtain ⟨qp, rfl, hqp⟩ := hp3.elem1 (i := j) (v := .int .i64 path[j]) (by simp [hjj])
  have hpn := (hpath path[j] (List.getElem_mem hjj)).1
  have hpn' : (path[j] : Int) < (n : Int) := by omega
  have hpn0 : (0 : Int) ≤ (path[j] : Int) := by omega
  have hlt1 : path[j] < (rng n (fun x => if x ∈ path.take j then 2 else st2 x)).length := by rw [rng_len]; exact hpn
  have hlt2 : path[j] < (rng n (fun x => if x ∈ path.take j then e else ou2 x)).length := by rw [rng_len]; exact hpn
  have hup : ∀ (v : Int) (f : Nat → Int), upd (fun x => if x ∈ path.take j then v else f x) path[j] v = fun x => if x ∈ path.take (j + 1) then v else f x := by
    intro v f
    funext x
    dsimp only [upd]
    rw [List.take_succ_eq_append_getElem hjj]
    by_cases e1 : x = path[j]
    · rw [if_pos e1, if_pos (List.mem_append_right _ (by rw [e1]; exact List.mem_singleton_self _))]
    · rw [if_neg e1]
      simp only [List.mem_append, List.mem_singleton, e1, or_false]
  have hset1 : (rng n (fun x => if x ∈ path.take j then 2 else st2 x)).set path[j] (.int .i64 2) = rng n (fun x => if x ∈ path.take (j + 1) then 2 else st2 x) := by rw [rng_set, hup]
  have hset2 : (rng n (fun x => if x ∈ path.take j then e else ou2 x)).set path[j] (.int .i64 e) = rng n (fun x => if x ∈ path.take (j + 1) then e else ou2 x) := by rw [rng_set, hup]
  obtain ⟨c1, hc1⟩ : ∃ c1, c1 = rng n (fun x => if x ∈ path.take j then e else ou2 x) := ⟨_, rfl⟩
  obtain ⟨c2, hc2⟩ : ∃ c2, c2 = rng n (fun x => if x ∈ path.take j then 2 else st2 x) := ⟨_, rfl⟩
  rw [← hc1] at hlt2 hset2 ⊢
  rw [← hc2] at hlt1 hset1 ⊢
  refine VC.go 100 ?_
  simp only [push_cast, ↓reduceIte, Nat.reduceEqDiff, Nat.reduceAdd, Nat.reduceMul, Nat.reduceSub, Nat.reduceLT, Nat.reduceLeDiff, reduceCtorEq, Nat.reduceMod, Int.reduceEq, Int.reduceLT, Int.reduceLE, Int.reduceToNat, dite_true, hjj', hj0, hqp, hpn', hpn0, hlt1, hlt2, hset1, hset2, ej]
  exact hG2 (j + 1) _ hjj (by omega) (by simp [subk, Eng.look]) (List.Sublist.refl _) rfl rfl
end Go.Proofs.Ythdbmbabfngakaa.G
