/- Graphs: not more than so many nodes; what must come at any rate. -/
import Derived.Test.YthdbmbabfngakaaH18
namespace Go.Proofs.Ythdbmbabfngakaa.G
open Go Go.Eng Go.Proofs Go.Proofs.Ythdbmbabfngakaa.T Go.Proofs.Ythdbmbabfngakaa.K
set_option linter.unusedSimpArgs false
set_option linter.unusedVariables false
set_option maxRecDepth 100000
set_option maxHeartbeats 4000000
theorem normF (F : PH) (vg : Value) (g : Gr) (hg : Gra F vg g) (hok : Okg g) : PFn Try.prog 11 [vg] F (fun v F' => Gra F' v (norm g)) :=
  Fn.frozenAll (normG F vg g hg hok.nodes hok.roots hok.kids hok.nons) fun v F' R' h F'' h1 h2 => h.gra h1 h2
theorem shortF (F : PH) (vg : Value) (g : Gr) (hg : Gra F vg g) (hok : Okg g) : PFn Try.prog 13 [vg] F (fun v F' => Gra F' v (short g)) :=
  Fn.frozenAll (shortG F vg g hg hok) fun v F' R' h F'' h1 h2 => h.gra h1 h2
def fewNd (m : Nd) : Nd := { m with kids := m.kids.take 20 }
def few (g : Gr) : Gr := ⟨g.roots.take 60, (g.nodes.take 60).map fewNd⟩
/-- The first elements. -/
theorem Sl.take {F : PH} {sz m c : Nat} {p : Option Addr} {xs : List Value} (h : Sl F sz (.slice p m c) m xs) {k : Nat} (hk : k ≤ m) : Sl F sz (.slice p k c) k (xs.take (k * sz)) := by
  obtain ⟨p', c', e, h1, h2, h3⟩ := h
  cases e
  refine ⟨_, _, rfl, by omega, h2, ?_, fun hpos => ?_⟩
  · rw [List.length_take, h3.1]; exact Nat.min_eq_left (Nat.mul_le_mul_right _ hk)
  · obtain ⟨a, rfl, hc⟩ := h3.2 (Nat.lt_of_lt_of_le hpos (Nat.mul_le_mul_right _ hk))
    refine ⟨_, rfl, ?_⟩
    have := cells_sub hc (o := 0) (m := k * sz) (by rw [Nat.zero_add]; exact Nat.mul_le_mul_right _ hk)
    rw [add_zero'] at this
    rw [this, List.drop_zero]
theorem Each.take {α : Type} {R : α → List Value → Prop} {sz : Nat} (hsz : ∀ a c, R a c → c.length = sz) : ∀ {l : List α} {xs : List Value}, Each R l xs → ∀ k, Each R (l.take k) (xs.take (k * sz))
  | l, xs, h, 0 => by simp [Each]
  | [], xs, h, k + 1 => by simp only [Each] at h; subst h; simp [Each]
  | a :: l, xs, ⟨c, zs, e, h1, h2⟩, k + 1 => by
    subst e
    refine ⟨c, zs.take (k * sz), ?_, h1, Each.take hsz h2 k⟩
    have := hsz a c h1
    rw [List.take_append, List.take_of_length_le (by rw [this, Nat.succ_mul]; omega)]
    congr 2
    rw [this, Nat.succ_mul]; omega
theorem Ints.take {F : PH} {p : Addr} {c : Nat} {l : List Int} (h : Ints F (.slice (some p) l.length c) l) {k : Nat} (hk : k ≤ l.length) : Ints F (.slice (some (p.add 0)) k c) (l.take k) := by
  have := Sl.take h hk
  unfold Ints
  rw [List.length_take, Nat.min_eq_left hk, add_zero', List.map_take]
  rwa [Nat.mul_one] at this
theorem Nodes.take {F : PH} {p : Addr} {c : Nat} {l : List Nd} (h : Nodes F (.slice (some p) l.length c) l) {k : Nat} (hk : k ≤ l.length) : Nodes F (.slice (some (p.add 0)) k c) (l.take k) := by
  obtain ⟨xs, h1, h2⟩ := h
  refine ⟨xs.take (k * 4), ?_, Each.take (fun _ _ h => RNd.len _ _ h) h2 k⟩
  have := Sl.take h1 hk
  rw [List.length_take, Nat.min_eq_left hk, add_zero']
  exact this
theorem fewL (F : PH) (vg : Value) (g : Gr) (hg : Gra F vg g) : PFn Try.prog 8 [vg] F (fun v F' => Gra F' v (few g)) := by
  obtain ⟨vr, vn, rfl, hvr, hvn⟩ := hg
  have hvr' := hvr
  have hvn' := hvn
  obtain ⟨pr, cr, rfl, hr1, hr2, hr3⟩ := hvr
  obtain ⟨pn, cn, rfl, hn1, hn2⟩ := hvn.val
  refine Fn.intro (n := 52) (ts := [.cell 2 25]) Try.func8 rfl rfl rfl rfl (by simp) fun B hB => VC.emp (VC.go 3 ?_)
  simp only [push_cast, ↓reduceIte, Nat.reduceEqDiff, Nat.reduceAdd, Nat.reduceMul, Nat.reduceSub, Nat.reduceLT, Nat.reduceLeDiff, reduceCtorEq, Nat.reduceMod, Int.reduceEq, Int.reduceLT, Int.reduceLE, Int.reduceToNat, dite_true]
  intro b1 b2
  refine VC.cutM (ι := Value) (fun v => [(2, .o 1 b2 0), (1, .o 0 b1 0)]) (fun v => [⟨0, b1, 25, [.slice pr g.roots.length cr, v]⟩, ⟨1, b2, 25, [.slice none 0 0, .slice none 0 0]⟩]) (fun _ => F) (fun v => Nodes F v (g.nodes.take 60)) ?_ ?_
  · intro G hG
    refine VC.go 100 ?_
    by_cases h : 60 < g.nodes.length
    · have h' : (60 : Int) < (g.nodes.length : Int) := by omega
      have hc : (60 : Int) ≤ (cn : Int) := by omega
      have hc0 : ¬ cn = 0 := by omega
      obtain ⟨q, _, _, eq, _⟩ := hvn'.elem (by decide) (i := 0) (a := g.nodes[0]'(by omega)) (List.getElem?_eq_getElem (by omega)) RNd.len
      cases eq
      simp only [push_cast, ↓reduceIte, Nat.reduceEqDiff, Nat.reduceAdd, Nat.reduceMul, Nat.reduceSub, Nat.reduceLT, Nat.reduceLeDiff, reduceCtorEq, Nat.reduceMod, Int.reduceEq, Int.reduceLT, Int.reduceLE, Int.reduceToNat, dite_true, h', hc, hc0]
      exact hG (.slice (some (q.add 0)) 60 cn) _ (Nodes.take hvn' (by omega)) (by simp [subk, Eng.look]) (by simp [hc0]) rfl rfl
    · have h' : ¬ (60 : Int) < (g.nodes.length : Int) := by omega
      simp only [push_cast, ↓reduceIte, Nat.reduceEqDiff, Nat.reduceAdd, Nat.reduceMul, Nat.reduceSub, Nat.reduceLT, Nat.reduceLeDiff, reduceCtorEq, Nat.reduceMod, Int.reduceEq, Int.reduceLT, Int.reduceLE, Int.reduceToNat, dite_true, h']
      exact hG _ _ (by rw [List.take_of_length_le (by omega)]; exact hvn') (by simp [subk, Eng.look]) (List.Sublist.refl _) rfl rfl
  intro vn2 hvn2
  have hvn2' := hvn2
  obtain ⟨pn2, cn2, rfl, hn21, hn22⟩ := hvn2.val
  refine VC.go 5 ?_
  simp only [push_cast, ↓reduceIte, Nat.reduceEqDiff, Nat.reduceAdd, Nat.reduceMul, Nat.reduceSub, Nat.reduceLT, Nat.reduceLeDiff, reduceCtorEq, Nat.reduceMod, Int.reduceEq, Int.reduceLT, Int.reduceLE, Int.reduceToNat, dite_true]
  intro b3
  refine VC.cutM (ι := Value) (fun v => [(3, .o 2 b3 0), (2, .o 1 b2 0), (1, .o 0 b1 0)]) (fun v => [⟨0, b1, 25, [.slice pr g.roots.length cr, .slice pn2 (g.nodes.take 60).length cn2]⟩, ⟨1, b2, 25, [.slice none 0 0, .slice none 0 0]⟩, ⟨2, b3, 25, [v, .slice none 0 0]⟩]) (fun _ => F) (fun v => Ints F v (g.roots.take 60)) ?_ ?_
  · intro G hG
    refine VC.go 100 ?_
    by_cases h : 60 < g.roots.length
    · have h' : (60 : Int) < (g.roots.length : Int) := by omega
      have hc : (60 : Int) ≤ (cr : Int) := by omega
      have hc0 : ¬ cr = 0 := by omega
      obtain ⟨q, rfl, _⟩ := hr3.elem1 (i := 0) (v := .int .i64 (g.roots[0]'(by omega))) (by simp)
      simp only [push_cast, ↓reduceIte, Nat.reduceEqDiff, Nat.reduceAdd, Nat.reduceMul, Nat.reduceSub, Nat.reduceLT, Nat.reduceLeDiff, reduceCtorEq, Nat.reduceMod, Int.reduceEq, Int.reduceLT, Int.reduceLE, Int.reduceToNat, dite_true, h', hc, hc0]
      exact hG (.slice (some (q.add 0)) 60 cr) _ (Ints.take hvr' (by omega)) (by simp [subk, Eng.look]) (by simp [hc0]) rfl rfl
    · have h' : ¬ (60 : Int) < (g.roots.length : Int) := by omega
      simp only [push_cast, ↓reduceIte, Nat.reduceEqDiff, Nat.reduceAdd, Nat.reduceMul, Nat.reduceSub, Nat.reduceLT, Nat.reduceLeDiff, reduceCtorEq, Nat.reduceMod, Int.reduceEq, Int.reduceLT, Int.reduceLE, Int.reduceToNat, dite_true, h']
      exact hG _ _ (by rw [List.take_of_length_le (by omega)]; exact hvr') (by simp [subk, Eng.look]) (List.Sublist.refl _) rfl rfl
  intro vr2 hvr2
  have hvr2' := hvr2
  obtain ⟨pr2, cr2, rfl, _⟩ := hvr2
  obtain ⟨nl, hnl⟩ : ∃ nl, nl = g.nodes.take 60 := ⟨_, rfl⟩
  rw [← hnl] at hvn2' hn21 ⊢
  have hnlen : nl.length ≤ 60 := by rw [hnl]; simp; omega
  refine VC.go 100 ?_
  simp only [push_cast, ↓reduceIte, Nat.reduceEqDiff, Nat.reduceAdd, Nat.reduceMul, Nat.reduceSub, Nat.reduceLT, Nat.reduceLeDiff, reduceCtorEq, Nat.reduceMod, Int.reduceEq, Int.reduceLT, Int.reduceLE, Int.reduceToNat, dite_true]
  refine VC.loopW (ι := RSt) (fun s => [(4, .v (.int .i64 s.i)), (3, .o 2 b3 0), (2, .o 1 b2 0), (1, .o 0 b1 0)]) (fun s => [⟨0, b1, 25, [.slice pr g.roots.length cr, .slice pn2 nl.length cn2]⟩, ⟨1, b2, 25, [.slice none 0 0, .slice none 0 0]⟩, ⟨2, b3, 25, [.slice pr2 (g.roots.take 60).length cr2, s.vx]⟩]) (fun s => s.F) (fun s => [s.rx])
    (fun s => s.i ≤ nl.length ∧ F.le s.F ∧ Row s.rx 34 4 s.vx s.xs ∧ Each (RNd s.F) ((nl.take s.i).map fewNd) s.xs) (fun s => nl.length - s.i) ⟨0, [], .slice none 0 0, PH.emp, F⟩ ⟨Nat.zero_le _, PH.le_refl _, Row.nil _ _, rfl⟩ (by simp [subk, Eng.look]) (List.Sublist.refl _) rfl (subR_refl _) ?_
  rintro ⟨i, xs, vx, rx, F1⟩ ⟨hi, hF1, hrx, hxs⟩ G hG
  dsimp only at hi hF1 hrx hxs hG ⊢
  obtain ⟨px, mx, cx, rfl, hmx, _⟩ := hrx.len
  by_cases h : i < nl.length
  case neg =>
    have h' : ¬ (i : Int) < (nl.length : Int) := by omega
    rw [List.take_of_length_le (show nl.length ≤ i from by omega)] at hxs
    refine VC.freezeR (List.Perm.refl _) fun F2 hF2 hrx2 => VC.go 100 ?_
    simp only [push_cast, ↓reduceIte, Nat.reduceEqDiff, Nat.reduceAdd, Nat.reduceMul, Nat.reduceSub, Nat.reduceLT, Nat.reduceLeDiff, reduceCtorEq, Nat.reduceMod, Int.reduceEq, Int.reduceLT, Int.reduceLE, Int.reduceToNat, dite_true, h']
    refine RetOk.r (vs := [_]) (by simp only [push_cast, ↓reduceIte, Nat.reduceEqDiff, Nat.reduceAdd, Nat.reduceMul, Nat.reduceSub, Nat.reduceLT, Nat.reduceLeDiff, reduceCtorEq, Nat.reduceMod, Int.reduceEq, Int.reduceLT, Int.reduceLE, Int.reduceToNat, dite_true, rvals, rval1]; rfl) (.sub (List.nil_sublist _)) ⟨rfl, _, _, rfl, hvr2'.mono (PH.le_trans hF1 hF2), ?_⟩
    rw [hnl] at hxs
    exact row_sle (by decide) (fun _ _ h => RNd.len _ _ h) hrx (hxs.mono fun _ _ _ h => h.mono hF2) hrx2
  have h' : (i : Int) < (nl.length : Int) := by omega
  have h0 : (0 : Int) ≤ (i : Int) := by omega
  have ew : IntKind.i64.wrap ((i : Int) + 1) = ((i + 1 : Nat) : Int) := wadd i h (Nat.le_trans hn21 hn22)
  obtain ⟨q, _, cs, eq, _, _, kl, kr⟩ := (hvn2'.mono hF1).elem (by decide) (i := i) (a := nl[i]) (List.getElem?_eq_getElem h) RNd.len
  cases eq
  obtain ⟨m, hmdef⟩ : ∃ m, m = nl[i] := ⟨_, rfl⟩
  rw [← hmdef] at kr
  obtain ⟨un, uk, rfl, hun, huk⟩ := kr
  have hun' := hun
  have huk' := huk
  obtain ⟨pun, cun, rfl, _⟩ := hun
  obtain ⟨puk, cuk, rfl, huk1, huk2, huk3⟩ := huk
  refine VC.go 10 ?_
  simp only [push_cast, ↓reduceIte, Nat.reduceEqDiff, Nat.reduceAdd, Nat.reduceMul, Nat.reduceSub, Nat.reduceLT, Nat.reduceLeDiff, reduceCtorEq, Nat.reduceMod, Int.reduceEq, Int.reduceLT, Int.reduceLE, Int.reduceToNat, dite_true, h', h0, kl]
  intro b5
  refine VC.cutW (ι := Value) (fun v => [(5, .o 3 b5 0), (4, .v (.int .i64 i)), (3, .o 2 b3 0), (2, .o 1 b2 0), (1, .o 0 b1 0)]) (fun v => [⟨0, b1, 25, [.slice pr g.roots.length cr, .slice (some q) nl.length cn2]⟩, ⟨1, b2, 25, [.slice none 0 0, .slice none 0 0]⟩, ⟨2, b3, 25, [.slice pr2 (g.roots.take 60).length cr2, .slice px mx cx]⟩, ⟨3, b5, 34, [.int .i64 m.kind, .int .i64 m.info, .slice pun m.nons.length cun, v]⟩]) (fun _ => F1) (fun _ => [rx]) (fun v => Ints F1 v (m.kids.take 20)) ?_ ?_
  · intro G2 hG2
    refine VC.go 100 ?_
    by_cases h2 : 20 < m.kids.length
    · have h2' : (20 : Int) < (m.kids.length : Int) := by omega
      have hc : (20 : Int) ≤ (cuk : Int) := by omega
      have hc0 : ¬ cuk = 0 := by omega
      obtain ⟨q, rfl, _⟩ := huk3.elem1 (i := 0) (v := .int .i64 (m.kids[0]'(by omega))) (by simp)
      simp only [push_cast, ↓reduceIte, Nat.reduceEqDiff, Nat.reduceAdd, Nat.reduceMul, Nat.reduceSub, Nat.reduceLT, Nat.reduceLeDiff, reduceCtorEq, Nat.reduceMod, Int.reduceEq, Int.reduceLT, Int.reduceLE, Int.reduceToNat, dite_true, h2', hc, hc0]
      exact hG2 (.slice (some (q.add 0)) 20 cuk) _ (Ints.take huk' (by omega)) (by simp [subk, Eng.look]) (by simp [hc0]) rfl (subR_refl _)
    · have h2' : ¬ (20 : Int) < (m.kids.length : Int) := by omega
      simp only [push_cast, ↓reduceIte, Nat.reduceEqDiff, Nat.reduceAdd, Nat.reduceMul, Nat.reduceSub, Nat.reduceLT, Nat.reduceLeDiff, reduceCtorEq, Nat.reduceMod, Int.reduceEq, Int.reduceLT, Int.reduceLE, Int.reduceToNat, dite_true, h2']
      exact hG2 _ _ (by rw [List.take_of_length_le (by omega)]; exact huk') (by simp [subk, Eng.look]) (List.Sublist.refl _) rfl (subR_refl _)
  intro vk hvk
  have hvk' := hvk
  obtain ⟨pk, ck, rfl, _⟩ := hvk
  refine VC.go 100 ?_
  simp only [push_cast, ↓reduceIte, Nat.reduceEqDiff, Nat.reduceAdd, Nat.reduceMul, Nat.reduceSub, Nat.reduceLT, Nat.reduceLeDiff, reduceCtorEq, Nat.reduceMod, Int.reduceEq, Int.reduceLT, Int.reduceLE, Int.reduceToNat, dite_true]
  intro b48 F2 hF2 hb48
  refine Eff.append (ys := [.int .i64 m.kind, .int .i64 m.info, .slice pun m.nons.length cun, .slice pk (m.kids.take 20).length ck]) rfl rfl rfl ty23 rfl ty34 rfl (by decide) rfl rfl (List.Perm.refl _) hrx (Src.blk hb48 rfl) (by simp [Value.oneCell']) (by have := Each.len (fun _ _ h => RNd.len _ _ h) hxs; simp at this ⊢; omega) (by decide) ?_
  intro vx2 rx2 hrx2
  obtain ⟨px2, mx2, cx2, rfl, _⟩ := hrx2.len
  simp only [push_cast, ↓reduceIte, Nat.reduceEqDiff, Nat.reduceAdd, Nat.reduceMul, Nat.reduceSub, Nat.reduceLT, Nat.reduceLeDiff, reduceCtorEq, Nat.reduceMod, Int.reduceEq, Int.reduceLT, Int.reduceLE, Int.reduceToNat, dite_true, ew]
  refine hG ⟨i + 1, _, .slice px2 mx2 cx2, rx2, F2⟩ _ ⟨h, PH.le_trans hF1 hF2, hrx2, ?_⟩ (by simp; omega) (by simp [subk, Eng.look]) (by simp) rfl (subR_refl _)
  dsimp only
  rw [List.take_succ_eq_append_getElem h, ← hmdef, List.map_append]
  exact each_snoc (hxs.mono fun _ _ _ h => h.mono hF2) ⟨_, _, rfl, hun'.mono hF2, hvk'.mono hF2⟩
end Go.Proofs.Ythdbmbabfngakaa.G
