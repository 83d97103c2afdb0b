/- Graphs: in the order of meeting. -/
import Derived.Test.YthdbmbabfngakaaH11
namespace Go.Proofs.Ythdbmbabfngakaa.G
open Go Go.Eng Go.Proofs Go.Proofs.Ythdbmbabfngakaa.T Go.Proofs.Ythdbmbabfngakaa.K
set_option linter.unusedSimpArgs false
set_option linter.unusedVariables false
set_option maxRecDepth 100000
set_option maxHeartbeats 4000000
/-- Nodes whose Kids' arrays are held apart. -/
def HEach (F : PH) : List Nd → List (Value × PH) → List Value → Prop
  | [], ks, xs => ks = [] ∧ xs = []
  | m :: l, ks, xs => ∃ vn k ks' xs', ks = k :: ks' ∧ xs = [.int .i64 m.kind, .int .i64 m.info, vn, k.1] ++ xs' ∧ Us F vn m.nons ∧ Row k.2 3 1 k.1 (m.kids.map (.int .i64)) ∧ HEach F l ks' xs'
theorem HEach.len {F : PH} : ∀ {l : List Nd} {ks : List (Value × PH)} {xs : List Value}, HEach F l ks xs → xs.length = l.length * 4 ∧ ks.length = l.length
  | [], ks, xs, ⟨h1, h2⟩ => by subst h1 h2; simp
  | m :: l, ks, xs, ⟨vn, k, ks', xs', h1, h2, h3, h4, h5⟩ => by
    subst h1 h2
    have := h5.len
    simp; omega
theorem HEach.mono {F F' : PH} (hF : F.le F') : ∀ {l : List Nd} {ks : List (Value × PH)} {xs : List Value}, HEach F l ks xs → HEach F' l ks xs
  | [], ks, xs, h => h
  | m :: l, ks, xs, ⟨vn, k, ks', xs', h1, h2, h3, h4, h5⟩ => ⟨vn, k, ks', xs', h1, h2, Sl.mono h3 hF, h4, h5.mono hF⟩
theorem HEach.snoc {F : PH} {m : Nd} {vn : Value} {k : Value × PH} (h3 : Us F vn m.nons) (h4 : Row k.2 3 1 k.1 (m.kids.map (.int .i64))) : ∀ {l : List Nd} {ks : List (Value × PH)} {xs : List Value}, HEach F l ks xs → HEach F (l ++ [m]) (ks ++ [k]) (xs ++ [.int .i64 m.kind, .int .i64 m.info, vn, k.1])
  | [], ks, xs, ⟨h1, h2⟩ => by subst h1 h2; exact ⟨vn, k, [], [], rfl, rfl, h3, h4, rfl, rfl⟩
  | m' :: l, ks, xs, ⟨vn', k', ks', xs', h1, h2, h5, h6, h7⟩ => by
    subst h1 h2
    exact ⟨vn', k', ks' ++ [k], _, rfl, by simp, h5, h6, h7.snoc h3 h4⟩
theorem HEach.nodes {F : PH} : ∀ {l : List Nd} {ks : List (Value × PH)} {xs : List Value}, HEach F l ks xs → (∀ k ∈ ks, k.2.le F) → Each (RNd F) l xs
  | [], ks, xs, ⟨h1, h2⟩, _ => by subst h1 h2; rfl
  | m :: l, ks, xs, ⟨vn, k, ks', xs', h1, h2, h3, h4, h5⟩, hk => by
    subst h1 h2
    obtain ⟨q, e1, e2⟩ := h4.sl (hk k List.mem_cons_self)
    refine ⟨_, xs', rfl, ⟨vn, k.1, rfl, h3, ?_⟩, h5.nodes fun x hx => hk x (List.mem_cons_of_mem _ hx)⟩
    have : q = m.kids.length := by simpa using e1.symm
    subst this
    exact e2
/-- A graph whose roots' array and whose Kids' arrays are held apart. -/
def Held (g : Gr) (v : Value) (F : PH) (R : List PH) : Prop :=
  ∃ vr vn r0 ks xs, v = .agg #[vr, vn] ∧ R = r0 :: ks.map Prod.snd ∧ Row r0 3 1 vr (g.roots.map (.int .i64)) ∧ Sl F 4 vn g.nodes.length xs ∧ HEach F g.nodes ks xs
/-- A graph that never turns. -/
def Gra (F : PH) (v : Value) (g : Gr) : Prop := ∃ vr vn, v = .agg #[vr, vn] ∧ Ints F vr g.roots ∧ Nodes F vn g.nodes
theorem Gra.mono {F F' : PH} {v : Value} {g : Gr} (h : Gra F v g) (hF : F.le F') : Gra F' v g := by
  obtain ⟨a, b, h1, h2, h3⟩ := h
  exact ⟨a, b, h1, Sl.mono h2 hF, Nodes.mono h3 hF⟩
theorem Row.ints {r F : PH} {v : Value} {l : List Int} (h : Row r 3 1 v (l.map (.int .i64))) (hl : r.le F) : Ints F v l := by
  obtain ⟨q, e1, e2⟩ := h.sl hl
  have : q = l.length := by simpa using e1.symm
  subst this
  exact e2
theorem Held.gra {g : Gr} {v : Value} {F F' : PH} {R : List PH} (h : Held g v F R) (hF : F.le F') (hR : ∀ r ∈ R, r.le F') : Gra F' v g := by
  obtain ⟨vr, vn, r0, ks, xs, rfl, rfl, h1, h2, h3⟩ := h
  refine ⟨vr, vn, rfl, Row.ints h1 (hR r0 List.mem_cons_self), xs, h2.mono hF, (h3.mono hF).nodes fun k hk => hR _ (List.mem_cons_of_mem _ (List.mem_map_of_mem hk))⟩
theorem Row.us {r F : PH} {v : Value} {l : List Int} (h : Row r 40 1 v (l.map (.int .u64))) (hl : r.le F) : Us F v l := by
  obtain ⟨q, e1, e2⟩ := h.sl hl
  have : q = l.length := by simpa using e1.symm
  subst this
  exact e2
structure NSt where
  i : Nat
  xs : List Value
  vn : Value
  rn : PH
  ks : List (Value × PH)
  F : PH
theorem order_some (g : Gr) {i : Nat} (h : i < (order g).length) : ∃ j : Nat, ∃ hj : j < g.nodes.length, (order g)[i] = (j : Int) := by
  have := (order_met g).rng _ (List.getElem_mem h)
  exact ⟨((order g)[i]).toNat, by omega, by omega⟩
theorem norm_node (g : Gr) {i j : Nat} (h : i < (order g).length) (hj : j < g.nodes.length) (e : (order g)[i] = (j : Int)) : (norm g).nodes[i]'(by rw [norm_len]; exact h) = { g.nodes[j] with kids := (g.nodes[j]).kids.map (idx (order g)) } := by
  simp only [norm, List.getElem_map]
  have : g.nodes[((order g)[i]).toNat]? = some g.nodes[j] := by rw [e]; simp [hj]
  rw [this]
theorem normG (F : PH) (vg : Value) (g : Gr) (hg : Gra F vg g) (hn : g.nodes.length ≤ 1000000) (hr : g.roots.length ≤ 1000000) (hk : ∀ m ∈ g.nodes, m.kids.length ≤ 1000000) (ho : ∀ m ∈ g.nodes, m.nons.length ≤ 17592186044416) :
    Eng.Fn Try.prog 11 [vg] F [] (Held (norm g)) := by
  obtain ⟨vr, vn, rfl, hvr, hvn⟩ := hg
  have hvr' := hvr
  have hvn' := hvn
  obtain ⟨pr, cr, rfl, _⟩ := hvr
  obtain ⟨pn, cn, rfl, hn1, hn2⟩ := hvn.val
  refine Fn.intro (n := 57) (ts := [.cell 2 25]) Try.func11 rfl rfl rfl rfl (by simp) fun B hB => VC.go 2 ?_
  simp only [push_cast, ↓reduceIte, Nat.reduceEqDiff, Nat.reduceAdd, Nat.reduceMul, Nat.reduceSub, Nat.reduceLT, Nat.reduceLeDiff, reduceCtorEq, Nat.reduceMod, Int.reduceEq, Int.reduceLT, Int.reduceLE, Int.reduceToNat, dite_true]
  intro b1 b2
  refine VC.freeze (List.Perm.refl _) fun F1 hF1 hb1 => ?_
  dsimp only at hb1
  refine VC.emp (VC.reL [(1, .v (.pointer (some ⟨b1, 0, none⟩))), (2, .o 1 b2 0)] (by simp [subv, Eng.look, AV.val]) (VC.go 4 ?_))
  simp only [push_cast, ↓reduceIte, Nat.reduceEqDiff, Nat.reduceAdd, Nat.reduceMul, Nat.reduceSub, Nat.reduceLT, Nat.reduceLeDiff, reduceCtorEq, Nat.reduceMod, Int.reduceEq, Int.reduceLT, Int.reduceLE, Int.reduceToNat, dite_true]
  refine Eff.makeMap rfl fun bm => ?_
  have cb : ∀ F', F1.le F' → F'.cells ⟨b1, 0, none⟩ 2 = some [.slice pr g.roots.length cr, .slice pn g.nodes.length cn] := fun F' h => h.cells (cells_blk hb1 rfl)
  have c0 : ∀ F', F1.le F' → F'.cell ⟨b1, 0, none⟩ = some (.slice pr g.roots.length cr) := fun F' h => by rw [cell_one (h _ _ hb1)]; rfl
  have c1 : ∀ F', F1.le F' → F'.cell ⟨b1, 1, none⟩ = some (.slice pn g.nodes.length cn) := fun F' h => by rw [cell_one (h _ _ hb1)]; rfl
  have cb1 := cb F1 (PH.le_refl _)
  have c01 := c0 F1 (PH.le_refl _)
  simp only [push_cast, ↓reduceIte, Nat.reduceEqDiff, Nat.reduceAdd, Nat.reduceMul, Nat.reduceSub, Nat.reduceLT, Nat.reduceLeDiff, reduceCtorEq, Nat.reduceMod, Int.reduceEq, Int.reduceLT, Int.reduceLE, Int.reduceToNat, dite_true]
  intro bw
  simp only [push_cast, ↓reduceIte, Nat.reduceEqDiff, Nat.reduceAdd, Nat.reduceMul, Nat.reduceSub, Nat.reduceLT, Nat.reduceLeDiff, reduceCtorEq, Nat.reduceMod, Int.reduceEq, Int.reduceLT, Int.reduceLE, Int.reduceToNat, dite_true, cb1, add_own, c01]
  refine CallV.pure (reals F1 _ _ _ g.nodes g.roots rfl (hvn'.mono hF1) (hvr'.mono hF1) hr) ?_
  intro vl F2 hF2 hvl
  simp only [push_cast, ↓reduceIte, Nat.reduceEqDiff, Nat.reduceAdd, Nat.reduceMul, Nat.reduceSub, Nat.reduceLT, Nat.reduceLeDiff, reduceCtorEq, Nat.reduceMod, Int.reduceEq, Int.reduceLT, Int.reduceLE, Int.reduceToNat, dite_true]
  refine CallV.ownGen (i := 2) (R1 := [PH.one bm (.map #[] 0), PH.emp]) (Rf := []) (Q' := fun v F' cs' R'' => ∃ es' c' va' ra', cs' = [.map (some bm), va', .func (.func 21) #[] #[.pointer (some ⟨b1, 0, none⟩)]] ∧ R'' = [PH.one bm (.map es' c'), ra'] ∧ MapAs (Value.int .i64) es' (idxMap (order g)) ∧ Row ra' 3 1 va' ((order g).map (.int .i64))) rfl (List.Perm.refl _) (meetG g F2 bw bm 21 #[.pointer (some ⟨b1, 0, none⟩)] vl (.slice none 0 0) PH.emp (g.roots.map (real g.nodes.length)) [] #[] 0 hvl (reals_roots g) hn (Met.nil _) rfl (Row.nil _ _) ?_) ?_ ?_
  · intro F' hF' x h0 hx
    exact kidsG F' b1 _ _ g x rfl (hvn'.mono (PH.le_trans hF1 (PH.le_trans hF2 hF'))) (PH.le_trans hF2 hF' _ _ hb1) h0 hx hk
  · rintro v F' R' ⟨es', c', va', ra', rfl, h1, h2⟩
    exact ⟨_, _, rfl, es', c', va', ra', rfl, rfl, h1, h2⟩
  rintro v F3 cs' R'' hF3 ⟨es, c, va, ra, rfl, rfl, hes, hra⟩
  simp only [push_cast, ↓reduceIte, Nat.reduceEqDiff, Nat.reduceAdd, Nat.reduceMul, Nat.reduceSub, Nat.reduceLT, Nat.reduceLeDiff, reduceCtorEq, Nat.reduceMod, Int.reduceEq, Int.reduceLT, Int.reduceLE, Int.reduceToNat, dite_true]
  obtain ⟨pa, ma, ca, rfl, hma, hma1, hma2⟩ := hra.len
  obtain rfl : ma = (order g).length := by simpa using hma.symm
  refine VC.freeze (List.Perm.swap _ _ _) fun F4 hF4 hbw => ?_
  dsimp only at hbw
  refine VC.freezeR (List.Perm.refl _) fun F5 hF5 hbm => ?_
  refine VC.freezeR (List.Perm.refl _) fun F6 hF6 hbr => ?_
  have hFw := hF6 _ _ (hF5 _ _ hbw)
  have hFm := hF6 _ _ (hbm _ _ (PH.one_self _ _))
  have hFall := Row.ints hra hbr
  have hF16 : F1.le F6 := PH.le_trans hF2 (PH.le_trans hF3 (PH.le_trans hF4 (PH.le_trans hF5 hF6)))
  have hF06 : F.le F6 := PH.le_trans hF1 hF16
  have c06 := c0 F6 hF16
  refine VC.emp (VC.reL [(1, .v (.pointer (some ⟨b1, 0, none⟩))), (2, .o 1 b2 0), (3, .v (.pointer (some ⟨bw, 0, none⟩)))] (by simp [subv, Eng.look, AV.val]) (VC.go 100 ?_))
  simp only [push_cast, ↓reduceIte, Nat.reduceEqDiff, Nat.reduceAdd, Nat.reduceMul, Nat.reduceSub, Nat.reduceLT, Nat.reduceLeDiff, reduceCtorEq, Nat.reduceMod, Int.reduceEq, Int.reduceLT, Int.reduceLE, Int.reduceToNat, dite_true, add_own, c06]
  refine CallV.row (numbersG F6 bw bm _ _ _ es c (order g) g.roots hFw hFm hes (hvr'.mono hF06) hr) ?_
  intro vr2 F7 r0 hF7 hr0
  obtain ⟨pr2, mr2, cr2, rfl, _⟩ := hr0.len
  simp only [push_cast, ↓reduceIte, Nat.reduceEqDiff, Nat.reduceAdd, Nat.reduceMul, Nat.reduceSub, Nat.reduceLT, Nat.reduceLeDiff, reduceCtorEq, Nat.reduceMod, Int.reduceEq, Int.reduceLT, Int.reduceLE, Int.reduceToNat, dite_true]
  intro b4
  have cw1 : F7.cell ⟨bw, 1, none⟩ = some (.slice pa (order g).length ca) := by rw [cell_one (hF7 _ _ hFw)]; rfl
  simp only [push_cast, ↓reduceIte, Nat.reduceEqDiff, Nat.reduceAdd, Nat.reduceMul, Nat.reduceSub, Nat.reduceLT, Nat.reduceLeDiff, reduceCtorEq, Nat.reduceMod, Int.reduceEq, Int.reduceLT, Int.reduceLE, Int.reduceToNat, dite_true, add_own, cw1]
  refine VC.loopW (ι := NSt) (fun s => [(28, .v (.int .i64 s.i)), (27, .v (.int .i64 (order g).length)), (26, .v (.slice pa (order g).length ca)), (4, .o 3 b4 0), (3, .v (.pointer (some ⟨bw, 0, none⟩))), (1, .v (.pointer (some ⟨b1, 0, none⟩))), (2, .o 1 b2 0)]) (fun s => [⟨1, b2, 25, [.slice none 0 0, .slice none 0 0]⟩, ⟨3, b4, 25, [.slice pr2 mr2 cr2, s.vn]⟩]) (fun s => s.F) (fun s => s.rn :: r0 :: s.ks.map Prod.snd)
    (fun s => s.i ≤ (order g).length ∧ F7.le s.F ∧ Row s.rn 34 4 s.vn s.xs ∧ HEach s.F ((norm g).nodes.take s.i) s.ks s.xs) (fun s => (order g).length - s.i) ⟨0, [], .slice none 0 0, PH.emp, [], F7⟩ ⟨Nat.zero_le _, PH.le_refl _, Row.nil _ _, rfl, rfl⟩ (by simp [subk, Eng.look]) (List.Sublist.refl _) rfl (subR_perm (List.Perm.swap _ _ _)) ?_
  rintro ⟨i, xs, vx, rn, ks, F8⟩ ⟨hi, hF8, hrn, hks⟩ G hG
  dsimp only at hi hF8 hrn hks hG ⊢
  have hF18 : F1.le F8 := PH.le_trans hF16 (PH.le_trans hF7 hF8)
  have hF08 : F.le F8 := PH.le_trans hF1 hF18
  have hF68 : F6.le F8 := PH.le_trans hF7 hF8
  obtain ⟨px, mx, cx, rfl, hmx, hmx1, hmx2⟩ := hrn.len
  obtain ⟨hks1, hks2⟩ := hks.len
  rw [List.length_take, norm_len, Nat.min_eq_left hi] at hks1 hks2
  obtain rfl : i = mx := by omega
  by_cases h : i < (order g).length
  case neg =>
    have h' : ¬ (i : Int) < ((order g).length : Int) := by omega
    have hx := hrn
    rw [List.take_of_length_le (by rw [norm_len]; omega)] at hks
    obtain rfl : i = (order g).length := by omega
    refine VC.freezeR (List.Perm.refl _) fun F9 hF9 hrn9 => VC.go 100 ?_
    simp only [push_cast, ↓reduceIte, Nat.reduceEqDiff, Nat.reduceAdd, Nat.reduceMul, Nat.reduceSub, Nat.reduceLT, Nat.reduceLeDiff, reduceCtorEq, Nat.reduceMod, Int.reduceEq, Int.reduceLT, Int.reduceLE, Int.reduceToNat, dite_true, h']
    refine RetOk.r (vs := [_]) (by simp only [push_cast, ↓reduceIte, Nat.reduceEqDiff, Nat.reduceAdd, Nat.reduceMul, Nat.reduceSub, Nat.reduceLT, Nat.reduceLeDiff, reduceCtorEq, Nat.reduceMod, Int.reduceEq, Int.reduceLT, Int.reduceLE, Int.reduceToNat, dite_true, rvals, rval1]; rfl) (.refl _) ⟨_, _, r0, ks, xs, rfl, rfl, ?_, ?_, hks.mono hF9⟩
    · have : (norm g).roots.map (Value.int .i64) = (g.roots.map (idx (order g))).map (.int .i64) := rfl
      rw [this]; exact hr0
    · obtain ⟨q, e1, e2⟩ := hrn.sl hrn9
      obtain rfl : q = (norm g).nodes.length := by rw [norm_len]; omega
      exact e2
  have h' : (i : Int) < ((order g).length : Int) := by omega
  have h0 : (0 : Int) ≤ (i : Int) := by omega
  obtain ⟨j, hj, ej⟩ := order_some g h
  have hj' : (j : Int) < (g.nodes.length : Int) := by omega
  have hj0 : (0 : Int) ≤ (j : Int) := by omega
  have hnode := norm_node g h hj ej
  have hF' := hFall.mono hF68
  obtain ⟨p6, c6, e6, _, _, hs6⟩ := hF'
  cases e6
  obtain ⟨qa, rfl, hqa⟩ := hs6.elem1 (i := i) (v := .int .i64 j) (by rw [List.getElem?_map, List.getElem?_eq_getElem h, ej]; rfl)
  have e2 : IntKind.i64.wrap ((i : Int) + 1) = ((i + 1 : Nat) : Int) := wadd i h (Nat.le_trans hma1 hma2)
  obtain ⟨m, hm⟩ : ∃ m, m = g.nodes[j] := ⟨_, rfl⟩
  have hmm : m ∈ g.nodes := by rw [hm]; exact List.getElem_mem hj
  have hvn8 := hvn'.mono hF08
  obtain ⟨q, _, cs, eq, _, _, kl, kr⟩ := hvn8.elem (by decide) (i := j) (a := g.nodes[j]) (List.getElem?_eq_getElem hj) RNd.len
  cases eq
  rw [← hm] at kr hnode
  obtain ⟨un, uk, rfl, hun, huk⟩ := kr
  have hun' := hun
  have huk' := huk
  obtain ⟨pun, cun, rfl, _, _, hun3⟩ := hun'
  obtain ⟨puk, cuk, rfl, _, _, huk3⟩ := huk'
  have c18 := c1 F8 hF18
  refine VC.go 13 ?_
  simp only [push_cast, ↓reduceIte, Nat.reduceEqDiff, Nat.reduceAdd, Nat.reduceMul, Nat.reduceSub, Nat.reduceLT, Nat.reduceLeDiff, reduceCtorEq, Nat.reduceMod, Int.reduceEq, Int.reduceLT, Int.reduceLE, Int.reduceToNat, dite_true, h', h0, hqa, add_own, c18, hj', hj0, kl]
  intro b7 b37
  refine Eff.appendB (xs := []) rfl rfl rfl ty32 rfl ty40 rfl (by decide) rfl rfl (List.Perm.refl _) (Row.begin _ _ _) hun3 (by simp [Value.oneCell']) (by have := ho m hmm; simp; unfold maxLen; omega) (by have := ho m hmm; simp; omega) ?_
  intro vu ru hru
  rw [List.nil_append] at hru
  obtain ⟨pu, mu, cu, rfl, _⟩ := hru.len
  simp only [push_cast, ↓reduceIte, Nat.reduceEqDiff, Nat.reduceAdd, Nat.reduceMul, Nat.reduceSub, Nat.reduceLT, Nat.reduceLeDiff, reduceCtorEq, Nat.reduceMod, Int.reduceEq, Int.reduceLT, Int.reduceLE, Int.reduceToNat, dite_true]
  refine VC.freezeR (List.Perm.refl _) fun F9 hF9 hru9 => VC.go 100 ?_
  have hF19 := PH.le_trans hF18 hF9
  have hF09 := PH.le_trans hF1 hF19
  have hF69 := PH.le_trans hF68 hF9
  have cb9 := cb F9 hF19
  simp only [push_cast, ↓reduceIte, Nat.reduceEqDiff, Nat.reduceAdd, Nat.reduceMul, Nat.reduceSub, Nat.reduceLT, Nat.reduceLeDiff, reduceCtorEq, Nat.reduceMod, Int.reduceEq, Int.reduceLT, Int.reduceLE, Int.reduceToNat, dite_true, add_own, cb9]
  refine CallV.pure (reals F9 _ _ _ g.nodes m.kids rfl (hvn'.mono hF09) (huk.mono hF9) (hk m hmm)) ?_
  intro vk1 F10 hF10 hvk1
  simp only [push_cast, ↓reduceIte, Nat.reduceEqDiff, Nat.reduceAdd, Nat.reduceMul, Nat.reduceSub, Nat.reduceLT, Nat.reduceLeDiff, reduceCtorEq, Nat.reduceMod, Int.reduceEq, Int.reduceLT, Int.reduceLE, Int.reduceToNat, dite_true]
  refine CallV.row (numbersG F10 bw bm _ _ _ es c (order g) (m.kids.map (real g.nodes.length)) (hF10 _ _ (hF69 _ _ hFw)) (hF10 _ _ (hF69 _ _ hFm)) hes hvk1 (by rw [List.length_map]; exact hk m hmm)) ?_
  intro vk2 F11 rk hF11 hrk
  obtain ⟨pk2, mk2, ck2, rfl, _⟩ := hrk.len
  simp only [push_cast, ↓reduceIte, Nat.reduceEqDiff, Nat.reduceAdd, Nat.reduceMul, Nat.reduceSub, Nat.reduceLT, Nat.reduceLeDiff, reduceCtorEq, Nat.reduceMod, Int.reduceEq, Int.reduceLT, Int.reduceLE, Int.reduceToNat, dite_true]
  intro b52 F12 hF12 hb52
  refine Eff.append (ys := [.int .i64 m.kind, .int .i64 m.info, .slice pu mu cu, .slice pk2 mk2 ck2]) rfl rfl rfl ty23 rfl ty34 rfl (by decide) rfl rfl (List.Perm.swap _ _ _) hrn (Src.blk hb52 rfl) (by simp [Value.oneCell']) (by have := (order_met g).len; simp; omega) (by decide) ?_
  intro vx2 rn2 hrn2
  obtain ⟨px2, mx2, cx2, rfl, _⟩ := hrn2.len
  have hU := (Row.us hru hru9).mono (PH.le_trans hF10 (PH.le_trans hF11 hF12))
  have hF812 : F8.le F12 := PH.le_trans hF9 (PH.le_trans hF10 (PH.le_trans hF11 hF12))
  have hi1 : i < (norm g).nodes.length := by rw [norm_len]; exact h
  simp only [push_cast, ↓reduceIte, Nat.reduceEqDiff, Nat.reduceAdd, Nat.reduceMul, Nat.reduceSub, Nat.reduceLT, Nat.reduceLeDiff, reduceCtorEq, Nat.reduceMod, Int.reduceEq, Int.reduceLT, Int.reduceLE, Int.reduceToNat, dite_true, e2]
  refine hG ⟨i + 1, _, .slice px2 mx2 cx2, rn2, ks ++ [(.slice pk2 mk2 ck2, rk)], F12⟩ _ ⟨h, PH.le_trans hF8 hF812, hrn2, ?_⟩ (by simp; omega) (by simp [subk, Eng.look]) (by simp) rfl ?_
  · dsimp only
    rw [List.take_succ_eq_append_getElem hi1, hnode]
    refine HEach.snoc (m := { m with kids := m.kids.map (idx (order g)) }) (vn := .slice pu mu cu) (k := (.slice pk2 mk2 ck2, rk)) hU ?_ (hks.mono hF812)
    dsimp only
    rw [show (m.kids.map (real g.nodes.length)).map (idx (order g)) = m.kids.map (idx (order g) ∘ real g.nodes.length) from List.map_map ..] at hrk
    rw [show m.kids.map (idx (order g)) = m.kids.map (idx (order g) ∘ real g.nodes.length) from List.map_congr_left fun k _ => (idx_real g k).symm]
    exact hrk
  · refine subR_perm (List.Perm.cons _ ?_)
    dsimp only
    rw [List.map_append]
    refine (List.Perm.swap _ _ _).trans (List.Perm.cons _ ?_)
    exact (List.perm_append_singleton _ _).symm
end Go.Proofs.Ythdbmbabfngakaa.G
