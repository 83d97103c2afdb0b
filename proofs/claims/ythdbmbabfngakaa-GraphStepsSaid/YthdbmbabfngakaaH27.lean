/- Graphs: the law that steps on the way leave what is short as it is, its walk. -/
import Derived.Test.YthdbmbabfngakaaH26
namespace Go.Proofs.Ythdbmbabfngakaa.G
open Go Go.Eng Go.Proofs Go.Proofs.Ythdbmbabfngakaa.T Go.Proofs.Ythdbmbabfngakaa.K
set_option linter.unusedSimpArgs false
set_option linter.unusedVariables false
set_option maxRecDepth 100000
set_option maxHeartbeats 4000000
structure YSt where
  i : Nat
  y : Gr
  r0 : PH
  ks : List (Value × PH)
  F : PH
structure PSt where
  p : Option Nat
  v : Value
  r : PH
  l : List Int
  Rf : List PH
theorem HEach.modify {F : PH} {r' : PH} {kl : List Int} {l : List Nd} {ks : List (Value × PH)} {xs : List Value} (h : HEach F l ks xs) {i : Nat} (hi : i < l.length) (h2 : i < ks.length) (hr : Row r' 3 1 ks[i].1 (kl.map (.int .i64))) : HEach F (l.modify i fun m => { m with kids := kl }) (ks.set i (ks[i].1, r')) xs := by
  have := h.set hi h2 hr
  have e : l.modify i (fun m => { m with kids := kl }) = l.set i { l[i] with kids := kl } := by
    refine List.ext_getElem? fun j => ?_
    rw [List.getElem?_modify, List.getElem?_set]
    by_cases e : i = j
    · subst e
      rw [List.getElem?_eq_getElem hi, if_pos rfl, if_pos hi]
      simp
    · rw [if_neg e]
      cases l[j]? with
      | none => rfl
      | some m => simp [e]
  rw [e]
  exact this
theorem okg_setP {y : Gr} (h : Okg y) (p : Option Nat) (l : List Int) (hl : l.length = (listP y p).length) : Okg (setP y p l) := by
  cases p with
  | none => exact ⟨h.nodes, by simp only [setP, hl, listP]; exact h.roots, h.kids, h.nons, h.nat⟩
  | some k =>
    have hm : ∀ m ∈ (setP y (some k) l).nodes, ∃ m' ∈ y.nodes, m.nons = m'.nons ∧ m.kids.length = m'.kids.length := fun m hm => by
      simp only [setP] at hm
      obtain ⟨j, hj, e⟩ := List.getElem_of_mem hm
      rw [List.getElem_modify] at e
      simp only [List.length_modify] at hj
      split at e
      · rename_i ek
        subst ek
        subst e
        refine ⟨_, List.getElem_mem hj, rfl, ?_⟩
        simp only [hl, listP, List.getElem?_eq_getElem hj, Option.map_some, Option.getD_some]
      · subst e; exact ⟨_, List.getElem_mem hj, rfl, rfl⟩
    refine ⟨by rw [setP_len]; exact h.nodes, h.roots, fun m hmm => ?_, fun m hmm => ?_, fun m hmm => ?_⟩
    · obtain ⟨m', h1, _, h3⟩ := hm m hmm; rw [h3]; exact h.kids m' h1
    · obtain ⟨m', h1, h2, _⟩ := hm m hmm; rw [h2]; exact h.nons m' h1
    · obtain ⟨m', h1, h2, _⟩ := hm m hmm; rw [h2]; exact h.nat m' h1
theorem law_steps (F : PH) (vg vw : Value) (g : Gr) (ws : List Int) (hg : Gra F vg g) (hn : OkN g) (hw : Sl F 1 vw ws.length (ws.map (.int .u16))) (hwr : ∀ w ∈ ws, 0 ≤ w ∧ w ≤ 65535) : PFn Try.prog 7 [vg, vw] F (fun v _ => v = .bool true) := by
  have hok := okg_few hn
  have hg' := hg
  obtain ⟨p, c, q, d, rfl⟩ := hg.val
  obtain ⟨pw, cw, rfl, hw1, hw2, hw3⟩ := hw
  obtain ⟨s, hs⟩ : ∃ s, s = few g := ⟨_, rfl⟩
  rw [← hs] at hok
  have hsz : Sz 60 60 20 s := hs ▸ Sz.few g
  refine Fn.intro (n := 135) (ts := [4]) Try.func7 rfl rfl rfl rfl (by simp) fun B hB => VC.emp (VC.go 100 ?_)
  simp only [push_cast, ↓reduceIte, Nat.reduceEqDiff, Nat.reduceAdd, Nat.reduceMul, Nat.reduceSub, Nat.reduceLT, Nat.reduceLeDiff, reduceCtorEq, Nat.reduceMod, Int.reduceEq, Int.reduceLT, Int.reduceLE, Int.reduceToNat, dite_true]
  intro b2
  refine CallV.pure (fewL F _ g hg') ?_
  intro v F1 hF1 h1
  rw [← hs] at h1
  obtain ⟨p1, c1, q1, d1, rfl⟩ := h1.val
  have hnd : Nodes F1 (.slice q1 s.nodes.length d1) s.nodes := by
    obtain ⟨_, _, e, _, h⟩ := h1
    cases e; exact h
  have hrt : Ints F1 (.slice p1 s.roots.length c1) s.roots := by
    obtain ⟨_, _, e, h, _⟩ := h1
    cases e; exact h
  simp only [push_cast, ↓reduceIte, Nat.reduceEqDiff, Nat.reduceAdd, Nat.reduceMul, Nat.reduceSub, Nat.reduceLT, Nat.reduceLeDiff, reduceCtorEq, Nat.reduceMod, Int.reduceEq, Int.reduceLT, Int.reduceLE, Int.reduceToNat, dite_true]
  refine CallV.pure (shortF F1 _ s h1 hok) ?_
  intro v F2 hF2 h2
  obtain ⟨p2, c2, q2, d2, rfl⟩ := h2.val
  simp only [push_cast, ↓reduceIte, Nat.reduceEqDiff, Nat.reduceAdd, Nat.reduceMul, Nat.reduceSub, Nat.reduceLT, Nat.reduceLeDiff, reduceCtorEq, Nat.reduceMod, Int.reduceEq, Int.reduceLT, Int.reduceLE, Int.reduceToNat, dite_true]
  intro b5
  refine CallV.pure (awakeL F2) ?_
  rintro _ F3 hF3 rfl
  by_cases hz : s.nodes.length = 0
  · have hz' : (s.nodes.length : Int) = 0 := by omega
    simp only [push_cast, ↓reduceIte, Nat.reduceEqDiff, Nat.reduceAdd, Nat.reduceMul, Nat.reduceSub, Nat.reduceLT, Nat.reduceLeDiff, reduceCtorEq, Nat.reduceMod, Int.reduceEq, Int.reduceLT, Int.reduceLE, Int.reduceToNat, dite_true, eq_true hz']
    refine CallV.pure (awakeL F3) ?_
    rintro _ F4 hF4 rfl
    simp only [push_cast, ↓reduceIte, Nat.reduceEqDiff, Nat.reduceAdd, Nat.reduceMul, Nat.reduceSub, Nat.reduceLT, Nat.reduceLeDiff, reduceCtorEq, Nat.reduceMod, Int.reduceEq, Int.reduceLT, Int.reduceLE, Int.reduceToNat, dite_true]
    exact RetOk.p rfl rfl
  have hz' : ¬ (s.nodes.length : Int) = 0 := by omega
  obtain ⟨n, hnn⟩ : ∃ n, n = s.nodes.length := ⟨_, rfl⟩
  rw [← hnn] at hnd hz' ⊢
  have hn60 : n ≤ 60 := by rw [hnn]; exact hsz.nodes
  have hnmax : n ≤ maxLen := by unfold maxLen; omega
  have hF13 := PH.le_trans hF2 hF3
  obtain ⟨_, _, er, hrt1, hrt2, hrt3⟩ := hrt.mono hF13
  cases er
  simp only [push_cast, ↓reduceIte, Nat.reduceEqDiff, Nat.reduceAdd, Nat.reduceMul, Nat.reduceSub, Nat.reduceLT, Nat.reduceLeDiff, reduceCtorEq, Nat.reduceMod, Int.reduceEq, Int.reduceLT, Int.reduceLE, Int.reduceToNat, dite_true, hz']
  intro b27
  refine Eff.append (xs := []) rfl rfl rfl ty22 rfl ty3 rfl (by decide) rfl rfl (List.Perm.refl _) (Row.begin _ _ _) hrt3 (by simp [Value.oneCell']) (by have := hsz.roots; simp; omega) (by decide) ?_
  intro vr r0 hr0
  rw [List.nil_append] at hr0
  obtain ⟨pr, mr, cr, rfl, _⟩ := hr0.len
  simp only [push_cast, ↓reduceIte, Nat.reduceEqDiff, Nat.reduceAdd, Nat.reduceMul, Nat.reduceSub, Nat.reduceLT, Nat.reduceLeDiff, reduceCtorEq, Nat.reduceMod, Int.reduceEq, Int.reduceLT, Int.reduceLE, Int.reduceToNat, dite_true]
  intro b6
  refine VC.loopW (ι := NSt) (fun t => [(7, .v (.int .i64 t.i)), (6, .o 2 b6 0), (5, .o 1 b5 0), (2, .o 0 b2 0), (1, .v (.slice pw ws.length cw))]) (fun t => [⟨0, b2, 25, [.slice p1 s.roots.length c1, .slice q1 n d1]⟩, ⟨1, b5, 25, [.slice p2 (short s).roots.length c2, .slice q2 (short s).nodes.length d2]⟩, ⟨2, b6, 25, [.slice pr mr cr, t.vn]⟩]) (fun t => t.F) (fun t => t.rn :: r0 :: t.ks.map Prod.snd)
    (fun t => t.i ≤ n ∧ F3.le t.F ∧ Row t.rn 34 4 t.vn t.xs ∧ HEach t.F (s.nodes.take t.i) t.ks t.xs) (fun t => n - t.i) ⟨0, [], .slice none 0 0, PH.emp, [], F3⟩ ⟨Nat.zero_le _, PH.le_refl _, Row.nil _ _, rfl, rfl⟩ (by simp [subk, Eng.look]) (List.Sublist.refl _) rfl (subR_perm (List.Perm.swap _ _ _)) ?_
  rintro ⟨i, xs, vx, rn, ks, F4⟩ ⟨hi, hF4, hrn, hks⟩ G hG
  dsimp only at hi hF4 hrn hks hG ⊢
  have hF14 := PH.le_trans hF13 hF4
  obtain ⟨px, mx, cx, rfl, hmx, hmx1, hmx2⟩ := hrn.len
  obtain ⟨hks1, hks2⟩ := hks.len
  rw [List.length_take, ← hnn, Nat.min_eq_left hi] at hks1 hks2
  obtain rfl : i = mx := by omega
  by_cases h : i < n
  · have h' : (i : Int) < (n : Int) := by omega
    have h0 : (0 : Int) ≤ (i : Int) := by omega
    have ew : IntKind.i64.wrap ((i : Int) + 1) = ((i + 1 : Nat) : Int) := wadd i h hnmax
    have hin : i < s.nodes.length := by omega
    obtain ⟨m, hmdef⟩ : ∃ m, m = s.nodes[i] := ⟨_, rfl⟩
    have hmm : m ∈ s.nodes := by rw [hmdef]; exact List.getElem_mem hin
    have hnd' : Nodes F4 (.slice q1 s.nodes.length d1) s.nodes := by rw [← hnn]; exact hnd.mono hF14
    obtain ⟨q, _, cs, eq, _, _, kl, kr⟩ := hnd'.elem (by decide) (i := i) (a := s.nodes[i]) (List.getElem?_eq_getElem hin) RNd.len
    cases eq
    rw [← hmdef] at kr
    obtain ⟨un, uk, rfl, hun, huk⟩ := kr
    have hun' := hun
    obtain ⟨pun, cun, rfl, _⟩ := hun
    obtain ⟨puk, cuk, rfl, _, _, huk3⟩ := huk
    have hkl := hsz.kids m hmm
    refine VC.go 100 ?_
    simp only [push_cast, ↓reduceIte, Nat.reduceEqDiff, Nat.reduceAdd, Nat.reduceMul, Nat.reduceSub, Nat.reduceLT, Nat.reduceLeDiff, reduceCtorEq, Nat.reduceMod, Int.reduceEq, Int.reduceLT, Int.reduceLE, Int.reduceToNat, dite_true, h', h0, kl]
    intro b8 b44
    refine Eff.append (xs := []) rfl rfl rfl ty22 rfl ty3 rfl (by decide) rfl rfl (List.Perm.refl _) (Row.begin _ _ _) huk3 (by simp [Value.oneCell']) (by simp; omega) (by decide) ?_
    intro vk rk hrk
    rw [List.nil_append] at hrk
    obtain ⟨pk, mk, ck, rfl, _⟩ := hrk.len
    simp only [push_cast, ↓reduceIte, Nat.reduceEqDiff, Nat.reduceAdd, Nat.reduceMul, Nat.reduceSub, Nat.reduceLT, Nat.reduceLeDiff, reduceCtorEq, Nat.reduceMod, Int.reduceEq, Int.reduceLT, Int.reduceLE, Int.reduceToNat, dite_true]
    intro b52 F5 hF5 hb52
    refine Eff.append (ys := [.int .i64 m.kind, .int .i64 m.info, .slice pun m.nons.length cun, .slice pk mk ck]) rfl rfl rfl ty23 rfl ty34 rfl (by decide) rfl rfl (List.Perm.swap _ _ _) hrn (Src.blk hb52 rfl) (by simp [Value.oneCell']) (by simp; omega) (by decide) ?_
    intro vx2 rn2 hrn2
    obtain ⟨px2, mx2, cx2, rfl, _⟩ := hrn2.len
    simp only [push_cast, ↓reduceIte, Nat.reduceEqDiff, Nat.reduceAdd, Nat.reduceMul, Nat.reduceSub, Nat.reduceLT, Nat.reduceLeDiff, reduceCtorEq, Nat.reduceMod, Int.reduceEq, Int.reduceLT, Int.reduceLE, Int.reduceToNat, dite_true, ew]
    refine hG ⟨i + 1, _, .slice px2 mx2 cx2, rn2, ks ++ [(.slice pk mk ck, rk)], F5⟩ _ ⟨h, PH.le_trans hF4 hF5, hrn2, ?_⟩ (by simp; omega) (by simp [subk, Eng.look]) (by simp) rfl ?_
    · dsimp only
      rw [List.take_succ_eq_append_getElem hin, ← hmdef]
      exact HEach.snoc (m := m) (vn := .slice pun m.nons.length cun) (k := (.slice pk mk ck, rk)) (hun'.mono hF5) hrk (hks.mono hF5)
    · refine subR_perm (List.Perm.cons _ ?_)
      dsimp only
      rw [List.map_append]
      refine (List.Perm.swap _ _ _).trans (List.Perm.cons _ ?_)
      exact (List.perm_append_singleton _ _).symm
  have h' : ¬ (i : Int) < (n : Int) := by omega
  obtain rfl : i = n := by omega
  rw [List.take_of_length_le (by omega)] at hks
  refine VC.go 5 ?_
  simp only [push_cast, ↓reduceIte, Nat.reduceEqDiff, Nat.reduceAdd, Nat.reduceMul, Nat.reduceSub, Nat.reduceLT, Nat.reduceLeDiff, reduceCtorEq, Nat.reduceMod, Int.reduceEq, Int.reduceLT, Int.reduceLE, Int.reduceToNat, dite_true, h']
  refine VC.freezeR (List.Perm.refl _) fun F5 hF5 hrn5 => ?_
  obtain ⟨qx, hqx, hslx⟩ := hrn.sl hrn5
  obtain rfl : qx = i := by omega
  have hsl0 := hslx
  obtain ⟨_, _, ex, hx1, hx2, hx3⟩ := hslx
  cases ex
  refine VC.go 3 ?_
  simp only [push_cast, ↓reduceIte, Nat.reduceEqDiff, Nat.reduceAdd, Nat.reduceMul, Nat.reduceSub, Nat.reduceLT, Nat.reduceLeDiff, reduceCtorEq, Nat.reduceMod, Int.reduceEq, Int.reduceLT, Int.reduceLE, Int.reduceToNat, dite_true]
  refine VC.cutW (ι := YSt) (fun t => [(9, .v (.int .i64 t.i)), (6, .o 2 b6 0), (5, .o 1 b5 0), (1, .v (.slice pw ws.length cw))]) (fun _ => [⟨1, b5, 25, [.slice p2 (short s).roots.length c2, .slice q2 (short s).nodes.length d2]⟩, ⟨2, b6, 25, [.slice pr mr cr, .slice px qx cx]⟩]) (fun t => t.F) (fun t => t.r0 :: t.ks.map Prod.snd) (fun t => t.i ≤ ws.length ∧ F5.le t.F ∧ Row t.r0 3 1 (.slice pr mr cr) (t.y.roots.map (.int .i64)) ∧ HEach t.F t.y.nodes t.ks xs ∧ t.y.nodes.length = qx ∧ (∀ m ∈ t.y.nodes, ∀ i ∈ m.nons, 0 ≤ i) ∧ Okg t.y ∧ short t.y = short s) ?_ ?_
  · intro G0 hG0
    refine VC.block ?_
    refine VC.loopW (ι := YSt) (fun t => [(9, .v (.int .i64 t.i)), (6, .o 2 b6 0), (5, .o 1 b5 0), (1, .v (.slice pw ws.length cw))]) (fun _ => [⟨1, b5, 25, [.slice p2 (short s).roots.length c2, .slice q2 (short s).nodes.length d2]⟩, ⟨2, b6, 25, [.slice pr mr cr, .slice px qx cx]⟩]) (fun t => t.F) (fun t => t.r0 :: t.ks.map Prod.snd) (fun t => t.i ≤ ws.length ∧ F5.le t.F ∧ Row t.r0 3 1 (.slice pr mr cr) (t.y.roots.map (.int .i64)) ∧ HEach t.F t.y.nodes t.ks xs ∧ t.y.nodes.length = qx ∧ (∀ m ∈ t.y.nodes, ∀ i ∈ m.nons, 0 ≤ i) ∧ Okg t.y ∧ short t.y = short s) (fun t => ws.length - t.i) ⟨0, s, r0, ks, F5⟩ ⟨Nat.zero_le _, PH.le_refl _, hr0, hks.mono hF5, hnn.symm, hok.nat, hok, rfl⟩ (by simp [subk, Eng.look]) (by simp) rfl (subR_refl _) ?_
    rintro ⟨i, y, r1, kz, F6⟩ ⟨hi2, hF6, hr1, hkz, hyn, hyo, hyk, hys⟩ G hG
    dsimp only at hi2 hF6 hr1 hkz hyn hyo hyk hys hG ⊢
    by_cases hgo1 : i < ws.length
    case neg =>
      have h1 : ¬ (i : Int) < (ws.length : Int) := by omega
      refine VC.go 100 ?_
      simp only [push_cast, ↓reduceIte, Nat.reduceEqDiff, Nat.reduceAdd, Nat.reduceMul, Nat.reduceSub, Nat.reduceLT, Nat.reduceLeDiff, reduceCtorEq, Nat.reduceMod, Int.reduceEq, Int.reduceLT, Int.reduceLE, Int.reduceToNat, dite_true, h1]
      exact hG0 ⟨i, y, r1, kz, F6⟩ _ ⟨hi2, hF6, hr1, hkz, hyn, hyo, hyk, hys⟩ (by simp [subk, Eng.look]) (List.Sublist.refl _) rfl (subR_refl _)
    have g1 : (i : Int) < (ws.length : Int) := by omega
    by_cases hgo2 : i < 60
    case neg =>
      have h2 : ¬ (i : Int) < 60 := by omega
      refine VC.go 100 ?_
      simp only [push_cast, ↓reduceIte, Nat.reduceEqDiff, Nat.reduceAdd, Nat.reduceMul, Nat.reduceSub, Nat.reduceLT, Nat.reduceLeDiff, reduceCtorEq, Nat.reduceMod, Int.reduceEq, Int.reduceLT, Int.reduceLE, Int.reduceToNat, dite_true, g1, h2]
      exact hG0 ⟨i, y, r1, kz, F6⟩ _ ⟨hi2, hF6, hr1, hkz, hyn, hyo, hyk, hys⟩ (by simp [subk, Eng.look]) (List.Sublist.refl _) rfl (subR_refl _)
    have g2 : (i : Int) < 60 := by omega
    have h0 : (0 : Int) ≤ (i : Int) := by omega
    have ew : IntKind.i64.wrap ((i : Int) + 1) = ((i + 1 : Nat) : Int) := wadd i hgo1 (Nat.le_trans hw1 hw2)
    have hF06 : F.le F6 := PH.le_trans hF1 (PH.le_trans hF13 (PH.le_trans hF4 (PH.le_trans hF5 hF6)))
    obtain ⟨qw, rfl, hqw⟩ := (hw3.mono hF06).elem1 (i := i) (v := .int .u16 ws[i]) (by simp [hgo1])
    have hwi := hwr _ (List.getElem_mem hgo1)
    obtain ⟨w, hwe⟩ : ∃ w : Nat, ws[i] = w := ⟨(ws[i]).toNat, by omega⟩
    rw [hwe] at hqw hwi
    have hwc : IntKind.i64.wrap (w : Int) = (w : Int) := IntWalk.i64_in _ (by omega)
    have hq1 : IntKind.i64.wrap ((qx : Int) + 1) = (qx : Int) + 1 := IntWalk.i64_in _ (by omega)
    have hq0 : ¬ (qx : Int) + 1 = 0 := by omega
    obtain ⟨k, hk⟩ : ∃ k, k = w % (qx + 1) := ⟨_, rfl⟩
    have hkq : k < qx + 1 := by rw [hk]; exact Nat.mod_lt _ (by omega)
    have htm : (w : Int).tmod ((qx : Int) + 1) = (k : Int) := by rw [hk]; rfl
    refine VC.go 100 ?_
    simp only [push_cast, ↓reduceIte, Nat.reduceEqDiff, Nat.reduceAdd, Nat.reduceMul, Nat.reduceSub, Nat.reduceLT, Nat.reduceLeDiff, reduceCtorEq, Nat.reduceMod, Int.reduceEq, Int.reduceLT, Int.reduceLE, Int.reduceToNat, dite_true, g1, g2]
    refine VC.draw (.q 0 (.q 1 (.q 2 (.q 3 (.q 4 (.q 5 (.q 6 (.q 7 (.q 8 (.q 9 (.q 10 (.done)))))))))))) mixed (by rfl) ?_
    simp only [push_cast, ↓reduceIte, Nat.reduceEqDiff, Nat.reduceAdd, Nat.reduceMul, Nat.reduceSub, Nat.reduceLT, Nat.reduceLeDiff, reduceCtorEq, Nat.reduceMod, Int.reduceEq, Int.reduceLT, Int.reduceLE, Int.reduceToNat, dite_true, g1, h0, hqw, hwc, hq1, hq0, htm]
    refine VC.go 3 ?_
    simp only [push_cast, ↓reduceIte, Nat.reduceEqDiff, Nat.reduceAdd, Nat.reduceMul, Nat.reduceSub, Nat.reduceLT, Nat.reduceLeDiff, reduceCtorEq, Nat.reduceMod, Int.reduceEq, Int.reduceLT, Int.reduceLE, Int.reduceToNat, dite_true]
    have hF56 : F3.le F6 := PH.le_trans hF4 (PH.le_trans hF5 hF6)
    refine VC.cutW (ι := PSt) (fun t => [(11, .v t.v), (10, .v (.int .i64 k)), (9, .v (.int .i64 i)), (6, .o 2 b6 0), (5, .o 1 b5 0), (1, .v (.slice (some qw) ws.length cw))]) (fun _ => [⟨1, b5, 25, [.slice p2 (short s).roots.length c2, .slice q2 (short s).nodes.length d2]⟩, ⟨2, b6, 25, [.slice pr mr cr, .slice px qx cx]⟩]) (fun _ => F6) (fun t => t.r :: t.Rf)
      (fun t => listP y t.p = t.l ∧ (r1 :: kz.map Prod.snd).Perm (t.r :: t.Rf) ∧ Row t.r 3 1 t.v (t.l.map (.int .i64)) ∧ ∀ (l' : List Int) (r' : PH), Row r' 3 1 t.v (l'.map (.int .i64)) → ∃ r0' ks', (r' :: t.Rf).Perm (r0' :: ks'.map Prod.snd) ∧ Row r0' 3 1 (.slice pr mr cr) ((setP y t.p l').roots.map (.int .i64)) ∧ ∀ F', F6.le F' → HEach F' (setP y t.p l').nodes ks' xs) ?_ ?_
    · intro G2 hG2
      by_cases hkn : k < qx
      · have hkn' : (k : Int) < (qx : Int) := by omega
        have hk0 : (0 : Int) ≤ (k : Int) := by omega
        have hky : k < y.nodes.length := by omega
        have hkk : k < kz.length := by rw [hkz.len.2]; exact hky
        obtain ⟨un, a1, a2, a3⟩ := hkz.at hky hkk
        obtain ⟨qn, rfl, hcells⟩ := (hx3.mono hF6).elem (i := k) hkn (by decide)
        rw [a1] at hcells
        have c3' := cell_at hcells (o := 3) rfl
        refine VC.go 100 ?_
        simp only [push_cast, ↓reduceIte, Nat.reduceEqDiff, Nat.reduceAdd, Nat.reduceMul, Nat.reduceSub, Nat.reduceLT, Nat.reduceLeDiff, reduceCtorEq, Nat.reduceMod, Int.reduceEq, Int.reduceLT, Int.reduceLE, Int.reduceToNat, dite_true, hkn', hk0, c3']
        obtain ⟨hp1, _⟩ := perm_at (l := kz.map Prod.snd) (i := k) (by simpa using hkk) PH.emp
        rw [List.getElem_map] at hp1
        have hperm : (r1 :: kz.map Prod.snd).Perm (kz[k].2 :: r1 :: ((kz.map Prod.snd).take k ++ (kz.map Prod.snd).drop (k + 1))) := (hp1.cons r1).trans (.swap _ _ _)
        refine hG2 ⟨some k, kz[k].1, kz[k].2, y.nodes[k].kids, r1 :: ((kz.map Prod.snd).take k ++ (kz.map Prod.snd).drop (k + 1))⟩ _ ⟨by simp [listP, hky], hperm, a3, fun l' r' hr' => ?_⟩ (by simp [subk, Eng.look]) (List.Sublist.refl _) rfl (subR_perm hperm)
        have hs2 := (perm_at (l := kz.map Prod.snd) (i := k) (by simpa using hkk) r').2
        refine ⟨r1, kz.set k (kz[k].1, r'), ?_, hr1, fun F' hF' => (hkz.mono hF').modify hky hkk hr'⟩
        rw [List.map_set]
        exact (List.Perm.swap _ _ _).trans (hs2.cons r1)
      · have hkn' : ¬ (k : Int) < (qx : Int) := by omega
        refine VC.go 100 ?_
        simp only [push_cast, ↓reduceIte, Nat.reduceEqDiff, Nat.reduceAdd, Nat.reduceMul, Nat.reduceSub, Nat.reduceLT, Nat.reduceLeDiff, reduceCtorEq, Nat.reduceMod, Int.reduceEq, Int.reduceLT, Int.reduceLE, Int.reduceToNat, dite_true, hkn']
        exact hG2 ⟨none, .slice pr mr cr, r1, y.roots, kz.map Prod.snd⟩ _ ⟨rfl, .refl _, hr1, fun l' r' hr' => ⟨r', kz, .refl _, hr', fun F' hF' => hkz.mono hF'⟩⟩ (by simp [subk, Eng.look]) (List.Sublist.refl _) rfl (subR_refl _)
    rintro ⟨pp, v11, r, l, Rf⟩ ⟨hlp, hperm, hrow, hclo⟩
    dsimp only at hlp hperm hrow hclo ⊢
    by_cases hl0 : l.length = 0
    · obtain ⟨pl, ml, cl', rfl, hml, _⟩ := hrow.len
      obtain rfl : ml = 0 := by rw [List.length_map] at hml; omega
      refine VC.go 100 ?_
      simp only [push_cast, ↓reduceIte, Nat.reduceEqDiff, Nat.reduceAdd, Nat.reduceMul, Nat.reduceSub, Nat.reduceLT, Nat.reduceLeDiff, reduceCtorEq, Nat.reduceMod, Int.reduceEq, Int.reduceLT, Int.reduceLE, Int.reduceToNat, dite_true, ew]
      exact hG ⟨i + 1, y, r1, kz, F6⟩ _ ⟨hgo1, hF6, hr1, hkz, hyn, hyo, hyk, hys⟩ (by simp; omega) (by simp [subk, Eng.look]) (List.Sublist.refl _) rfl (subR_perm hperm.symm)
    obtain ⟨pl, ml, cl', rfl, hml, hml1, hml2⟩ := hrow.has (fun e => hl0 (by simpa using e))
    obtain rfl : ml = l.length := by simpa using hml.symm
    refine VC.rowE 7 (.refl _) hrow fun gl cs e1 er1 e2 e3 e4 e5 => ?_
    subst e1
    rw [Nat.mul_one] at e2 e5
    have hne : ¬ (l.length : Int) = 0 := by omega
    obtain ⟨u, hu⟩ : ∃ u, u = w / (qx + 1) := ⟨_, rfl⟩
    have hu1 : u ≤ w := by rw [hu]; exact Nat.div_le_self _ _
    obtain ⟨j, hj⟩ : ∃ j, j = u % l.length := ⟨_, rfl⟩
    have hjl : j < l.length := by rw [hj]; exact Nat.mod_lt _ (by omega)
    have hjl' : (j : Int) < (l.length : Int) := by omega
    have hj0 : (0 : Int) ≤ (j : Int) := by omega
    have hqw2 : IntKind.i64.wrap ((w : Int).tdiv ((qx : Int) + 1)) = (u : Int) := by
      rw [show (w : Int).tdiv ((qx : Int) + 1) = (u : Int) from by rw [hu]; rfl]
      exact IntWalk.i64_in _ (by omega)
    have hjm : (u : Int).tmod (l.length : Int) = (j : Int) := by rw [hj]; rfl
    have hget : cs[j]? = some (.int .i64 l[j]) := by
      rw [← List.getElem?_take_of_lt hjl, e5]; simp [hjl]
    refine VC.reN [(11, .s 7 gl 0 l.length cl'), (10, .v (.int .i64 k)), (9, .v (.int .i64 i)), (6, .o 2 b6 0), (5, .o 1 b5 0), (1, .v (.slice (some qw) ws.length cw))] 8 (by simp [subv, Eng.look, AV.val]) (VC.go 100 ?_)
    simp only [push_cast, ↓reduceIte, Nat.reduceEqDiff, Nat.reduceAdd, Nat.reduceMul, Nat.reduceSub, Nat.reduceLT, Nat.reduceLeDiff, reduceCtorEq, Nat.reduceMod, Int.reduceEq, Int.reduceLT, Int.reduceLE, Int.reduceToNat, dite_true, hne]
    refine VC.draw (.q 0 (.q 1 (.q 2 (.q 3 (.q 4 (.q 5 (.q 6 (.q 7 (.q 8 (.q 9 (.q 10 (.q 11 (.q 12 (.q 13 (.done))))))))))))))) mixed (by rfl) ?_
    simp only [push_cast, ↓reduceIte, Nat.reduceEqDiff, Nat.reduceAdd, Nat.reduceMul, Nat.reduceSub, Nat.reduceLT, Nat.reduceLeDiff, reduceCtorEq, Nat.reduceMod, Int.reduceEq, Int.reduceLT, Int.reduceLE, Int.reduceToNat, dite_true, g1, h0, hqw, hwc, hq1, hq0, hne, hqw2, hjm]
    refine VC.go 100 ?_
    simp only [push_cast, ↓reduceIte, Nat.reduceEqDiff, Nat.reduceAdd, Nat.reduceMul, Nat.reduceSub, Nat.reduceLT, Nat.reduceLeDiff, reduceCtorEq, Nat.reduceMod, Int.reduceEq, Int.reduceLT, Int.reduceLE, Int.reduceToNat, dite_true]
    refine VC.draw (.q 0 (.q 1 (.q 2 (.q 3 (.q 4 (.q 5 (.q 6 (.q 7 (.q 8 (.q 9 (.q 10 (.q 11 (.q 12 (.q 13 (.q 14 (.done)))))))))))))))) mixed (by rfl) ?_
    have hrowM : ∀ cs' : List Value, cs'.length = cl' → Row (cell1 gl 3 cs') 3 1 (.slice (some ⟨gl, 0, none⟩) l.length cl') (cs'.take l.length) := fun cs' hc' => by
      have := Row.back (g := gl) (e := 3) (sz := 1) (m := l.length) (c := cl') (cs := cs') (by rw [hc', Nat.mul_one]) e3 e4
      rwa [Nat.mul_one] at this
    have same : ∀ (S' : St), subk S'.L [(9, .v (.int .i64 ((i + 1 : Nat) : Int))), (6, .o 2 b6 0), (5, .o 1 b5 0), (1, .v (.slice (some qw) ws.length cw))] → [⟨1, b5, 25, [.slice p2 (short s).roots.length c2, .slice q2 (short s).nodes.length d2]⟩, ⟨2, b6, 25, [.slice pr mr cr, .slice px qx cx]⟩].Sublist S'.M → ∀ F' : PH, F6.le F' → S'.F = F' → S'.R = cell1 gl 3 cs :: Rf → G S' := by
      intro S' k1 k2 F' hF' k3 k4
      have hrw := hrowM cs e2
      rw [e5] at hrw
      obtain ⟨r0', ks', q1, q2, q3⟩ := hclo l _ hrw
      have hself : setP y pp l = y := by
        rw [← hlp]
        cases pp with
        | none => rfl
        | some k' =>
          simp only [setP, listP]
          have : y.nodes.modify k' (fun m => { m with kids := ((y.nodes[k']?).map Nd.kids).getD [] }) = y.nodes := by
            refine List.ext_getElem? fun z => ?_
            rw [List.getElem?_modify]
            by_cases e : k' = z
            · subst e
              cases y.nodes[k']? with
              | none => rfl
              | some m => simp
            · cases y.nodes[z]? with
              | none => rfl
              | some m => simp [e]
          rw [this]
      rw [hself] at q2 q3
      exact hG ⟨i + 1, y, r0', ks', F'⟩ S' ⟨hgo1, PH.le_trans hF6 hF', q2, q3 F' hF', hyn, hyo, hyk, hys⟩ (by simp; omega) k1 k2 k3 (by rw [k4]; exact subR_perm q1)
    by_cases hin : 0 ≤ l[j] ∧ l[j] < qx
    case neg =>
      have fin : ∀ κ : Prop, (¬ 0 ≤ l[j] → κ) → (0 ≤ l[j] → ¬ l[j] < qx → κ) → κ := fun κ k1 k2 => by
        by_cases g : 0 ≤ l[j]
        · exact k2 g fun e => hin ⟨g, e⟩
        · exact k1 g
      refine fin _ (fun g => ?_) (fun g g2' => ?_)
      · simp only [push_cast, ↓reduceIte, Nat.reduceEqDiff, Nat.reduceAdd, Nat.reduceMul, Nat.reduceSub, Nat.reduceLT, Nat.reduceLeDiff, reduceCtorEq, Nat.reduceMod, Int.reduceEq, Int.reduceLT, Int.reduceLE, Int.reduceToNat, dite_true, hjl', hj0, hget, g]
        refine VC.go 2 ?_
        simp only [push_cast, ↓reduceIte, Nat.reduceEqDiff, Nat.reduceAdd, Nat.reduceMul, Nat.reduceSub, Nat.reduceLT, Nat.reduceLeDiff, reduceCtorEq, Nat.reduceMod, Int.reduceEq, Int.reduceLT, Int.reduceLE, Int.reduceToNat, dite_true]
        refine VC.toR (List.Perm.refl _) [(9, .v (.int .i64 i)), (6, .o 2 b6 0), (5, .o 1 b5 0), (1, .v (.slice (some qw) ws.length cw))] (by simp [subv, Eng.look, AV.val]) (VC.go 100 ?_)
        simp only [push_cast, ↓reduceIte, Nat.reduceEqDiff, Nat.reduceAdd, Nat.reduceMul, Nat.reduceSub, Nat.reduceLT, Nat.reduceLeDiff, reduceCtorEq, Nat.reduceMod, Int.reduceEq, Int.reduceLT, Int.reduceLE, Int.reduceToNat, dite_true, ew]
        exact same _ (by simp [subk, Eng.look]) (List.Sublist.refl _) F6 (PH.le_refl _) rfl rfl
      · simp only [push_cast, ↓reduceIte, Nat.reduceEqDiff, Nat.reduceAdd, Nat.reduceMul, Nat.reduceSub, Nat.reduceLT, Nat.reduceLeDiff, reduceCtorEq, Nat.reduceMod, Int.reduceEq, Int.reduceLT, Int.reduceLE, Int.reduceToNat, dite_true, hjl', hj0, hget, eq_true g, g2']
        refine VC.go 2 ?_
        simp only [push_cast, ↓reduceIte, Nat.reduceEqDiff, Nat.reduceAdd, Nat.reduceMul, Nat.reduceSub, Nat.reduceLT, Nat.reduceLeDiff, reduceCtorEq, Nat.reduceMod, Int.reduceEq, Int.reduceLT, Int.reduceLE, Int.reduceToNat, dite_true]
        refine VC.toR (List.Perm.refl _) [(9, .v (.int .i64 i)), (6, .o 2 b6 0), (5, .o 1 b5 0), (1, .v (.slice (some qw) ws.length cw))] (by simp [subv, Eng.look, AV.val]) (VC.go 100 ?_)
        simp only [push_cast, ↓reduceIte, Nat.reduceEqDiff, Nat.reduceAdd, Nat.reduceMul, Nat.reduceSub, Nat.reduceLT, Nat.reduceLeDiff, reduceCtorEq, Nat.reduceMod, Int.reduceEq, Int.reduceLT, Int.reduceLE, Int.reduceToNat, dite_true, ew]
        exact same _ (by simp [subk, Eng.look]) (List.Sublist.refl _) F6 (PH.le_refl _) rfl rfl
    obtain ⟨hin0, hin1⟩ := hin
    obtain ⟨m, hm⟩ := nd_some y hin0 (by rw [hyn]; exact hin1)
    simp only [push_cast, ↓reduceIte, Nat.reduceEqDiff, Nat.reduceAdd, Nat.reduceMul, Nat.reduceSub, Nat.reduceLT, Nat.reduceLeDiff, reduceCtorEq, Nat.reduceMod, Int.reduceEq, Int.reduceLT, Int.reduceLE, Int.reduceToNat, dite_true, hjl', hj0, hget, eq_true hin0, eq_true hin1]
    refine VC.go 100 ?_
    simp only [push_cast, ↓reduceIte, Nat.reduceEqDiff, Nat.reduceAdd, Nat.reduceMul, Nat.reduceSub, Nat.reduceLT, Nat.reduceLeDiff, reduceCtorEq, Nat.reduceMod, Int.reduceEq, Int.reduceLT, Int.reduceLE, Int.reduceToNat, dite_true]
    refine VC.draw (.q 0 (.q 1 (.q 2 (.q 3 (.q 4 (.es 5 [0, 1, 2, 3, 4] (.q 6 (.done)))))))) mixed (by rfl) ?_
    simp only [push_cast, ↓reduceIte, Nat.reduceEqDiff, Nat.reduceAdd, Nat.reduceMul, Nat.reduceSub, Nat.reduceLT, Nat.reduceLeDiff, reduceCtorEq, Nat.reduceMod, Int.reduceEq, Int.reduceLT, Int.reduceLE, Int.reduceToNat, dite_true, hjl', hj0, hget]
    have hQ : (∀ r ∈ cell1 gl 3 cs :: Rf, r.le (orAll F6 (cell1 gl 3 cs :: Rf))) → PFn Try.prog 19 [.agg #[.slice pr mr cr, .slice px qx cx], .int .i64 l[j]] (orAll F6 (cell1 gl 3 cs :: Rf)) (fun v _ => v = .int .i64 (rawL y.nodes m)) := by
      intro hle
      have hFo := le_orAll (cell1 gl 3 cs :: Rf) F6
      have hrw := hrowM cs e2
      rw [e5] at hrw
      refine leadsRaw _ _ _ y l[j] m rfl ?_ hyo hm
      refine ⟨xs, by rw [hyn]; exact hsl0.mono (PH.le_trans hF6 hFo), (hkz.mono hFo).nodes fun k hk => ?_⟩
      exact hle _ (by rw [← er1]; exact hperm.mem_iff.1 (List.mem_cons_of_mem _ (List.mem_map_of_mem hk)))
    refine CallV.ownGen (i := 7) (R1 := Rf) (Rf := []) (Q' := fun v F' cs' R'' => cs = cs' ∧ Rf = R'' ∧ v = .int .i64 (rawL y.nodes m)) rfl (by simp) (Fn.lendAll (cell1 gl 3 cs :: Rf) F6 hQ ⟨_, rfl, rfl, rfl⟩) ?_ ?_
    · rintro v F' R' ⟨rfl, hv⟩
      exact ⟨_, _, rfl, rfl, rfl, hv⟩
    rintro _ F7 _ _ hF7 ⟨rfl, rfl, rfl⟩
    simp only [push_cast, ↓reduceIte, Nat.reduceEqDiff, Nat.reduceAdd, Nat.reduceMul, Nat.reduceSub, Nat.reduceLT, Nat.reduceLeDiff, reduceCtorEq, Nat.reduceMod, Int.reduceEq, Int.reduceLT, Int.reduceLE, Int.reduceToNat, dite_true, hjl', hj0, hget, List.append_nil]
    have hcs1 : j < cs.length := by rw [e2]; omega
    by_cases hto : 0 ≤ rawL y.nodes m
    · refine VC.go 4 ?_
      simp only [push_cast, ↓reduceIte, Nat.reduceEqDiff, Nat.reduceAdd, Nat.reduceMul, Nat.reduceSub, Nat.reduceLT, Nat.reduceLeDiff, reduceCtorEq, Nat.reduceMod, Int.reduceEq, Int.reduceLT, Int.reduceLE, Int.reduceToNat, dite_true, eq_true hto, hjl', hj0, hcs1]
      refine VC.toR (List.Perm.refl _) [(9, .v (.int .i64 i)), (6, .o 2 b6 0), (5, .o 1 b5 0), (1, .v (.slice (some qw) ws.length cw))] (by simp [subv, Eng.look, AV.val]) (VC.go 100 ?_)
      simp only [push_cast, ↓reduceIte, Nat.reduceEqDiff, Nat.reduceAdd, Nat.reduceMul, Nat.reduceSub, Nat.reduceLT, Nat.reduceLeDiff, reduceCtorEq, Nat.reduceMod, Int.reduceEq, Int.reduceLT, Int.reduceLE, Int.reduceToNat, dite_true, ew]
      have hrw := hrowM (cs.set j (.int .i64 (rawL y.nodes m))) (by rw [List.length_set]; exact e2)
      have hset : (cs.set j (.int .i64 (rawL y.nodes m))).take l.length = (l.set j (rawL y.nodes m)).map (.int .i64) := by rw [List.take_set, e5, List.map_set]
      rw [hset] at hrw
      obtain ⟨r0', ks', q1, q2, q3⟩ := hclo _ _ hrw
      have hlen' : (l.set j (rawL y.nodes m)).length = (listP y pp).length := by rw [List.length_set, hlp]
      have hF67 : F6.le F7 := hF7
      exact hG ⟨i + 1, setP y pp (l.set j (rawL y.nodes m)), r0', ks', F7⟩ _ ⟨hgo1, PH.le_trans hF6 hF67, q2, q3 F7 hF67, by rw [setP_len]; exact hyn, setP_nons hyo _ _, okg_setP hyk pp _ hlen', by rw [short_step hyo hlp hjl hm hto]; exact hys⟩ (by simp; omega) (by simp [subk, Eng.look]) (List.Sublist.refl _) rfl (subR_perm q1)
    · refine VC.go 4 ?_
      simp only [push_cast, ↓reduceIte, Nat.reduceEqDiff, Nat.reduceAdd, Nat.reduceMul, Nat.reduceSub, Nat.reduceLT, Nat.reduceLeDiff, reduceCtorEq, Nat.reduceMod, Int.reduceEq, Int.reduceLT, Int.reduceLE, Int.reduceToNat, dite_true, hto]
      refine VC.toR (List.Perm.refl _) [(9, .v (.int .i64 i)), (6, .o 2 b6 0), (5, .o 1 b5 0), (1, .v (.slice (some qw) ws.length cw))] (by simp [subv, Eng.look, AV.val]) (VC.go 100 ?_)
      simp only [push_cast, ↓reduceIte, Nat.reduceEqDiff, Nat.reduceAdd, Nat.reduceMul, Nat.reduceSub, Nat.reduceLT, Nat.reduceLeDiff, reduceCtorEq, Nat.reduceMod, Int.reduceEq, Int.reduceLT, Int.reduceLE, Int.reduceToNat, dite_true, ew]
      exact same _ (by simp [subk, Eng.look]) (List.Sublist.refl _) F7 hF7 rfl rfl
  rintro ⟨i, y, r1, kz, F6⟩ ⟨hi2, hF6, hr1, hkz, hyn, hyo, hyk, hys⟩
  dsimp only at hi2 hF6 hr1 hkz hyn hyo hyk hys ⊢
  have hF26 : F2.le F6 := PH.le_trans hF3 (PH.le_trans hF4 (PH.le_trans hF5 hF6))
  refine VC.freezeAll (r1 :: kz.map Prod.snd) (Rf := []) (by simp) fun F7 hF7 hR7 => VC.go 100 ?_
  have hgra : Gra F7 (.agg #[.slice pr mr cr, .slice px qx cx]) y := Held.gra (R := r1 :: kz.map Prod.snd) ⟨_, _, r1, kz, xs, rfl, rfl, hr1, by rw [hyn]; exact hsl0.mono hF6, hkz⟩ hF7 hR7
  simp only [push_cast, ↓reduceIte, Nat.reduceEqDiff, Nat.reduceAdd, Nat.reduceMul, Nat.reduceSub, Nat.reduceLT, Nat.reduceLeDiff, reduceCtorEq, Nat.reduceMod, Int.reduceEq, Int.reduceLT, Int.reduceLE, Int.reduceToNat, dite_true]
  refine VC.draw (.q 0 (.q 2 (.e 1 (.e 3 (.q 4 (.done)))))) mixed (by rfl) ?_
  simp only [push_cast, ↓reduceIte, Nat.reduceEqDiff, Nat.reduceAdd, Nat.reduceMul, Nat.reduceSub, Nat.reduceLT, Nat.reduceLeDiff, reduceCtorEq, Nat.reduceMod, Int.reduceEq, Int.reduceLT, Int.reduceLE, Int.reduceToNat, dite_true]
  refine CallV.pure (shortF F7 _ y hgra hyk) ?_
  intro v8 F8 hF8 h8
  rw [hys] at h8
  simp only [push_cast, ↓reduceIte, Nat.reduceEqDiff, Nat.reduceAdd, Nat.reduceMul, Nat.reduceSub, Nat.reduceLT, Nat.reduceLeDiff, reduceCtorEq, Nat.reduceMod, Int.reduceEq, Int.reduceLT, Int.reduceLE, Int.reduceToNat, dite_true]
  refine CallV.pure (sameL F8 _ _ _ _ h8 (h2.mono (PH.le_trans hF26 (PH.le_trans hF7 hF8)))) ?_
  rintro _ F9 hF9 rfl
  rw [sameGr_refl]
  simp only [push_cast, ↓reduceIte, Nat.reduceEqDiff, Nat.reduceAdd, Nat.reduceMul, Nat.reduceSub, Nat.reduceLT, Nat.reduceLeDiff, reduceCtorEq, Nat.reduceMod, Int.reduceEq, Int.reduceLT, Int.reduceLE, Int.reduceToNat, dite_true]
  refine VC.go 100 ?_
  simp only [push_cast, ↓reduceIte, Nat.reduceEqDiff, Nat.reduceAdd, Nat.reduceMul, Nat.reduceSub, Nat.reduceLT, Nat.reduceLeDiff, reduceCtorEq, Nat.reduceMod, Int.reduceEq, Int.reduceLT, Int.reduceLE, Int.reduceToNat, dite_true]
  exact RetOk.p rfl rfl
end Go.Proofs.Ythdbmbabfngakaa.G
