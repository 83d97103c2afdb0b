/- Graphs: into what is not met yet. -/
import Derived.Test.YthdbmbabfngakaaH10
namespace Go.Proofs.Ythdbmbabfngakaa.G
open Go Go.Eng Go.Proofs Go.Proofs.Ythdbmbabfngakaa.T Go.Proofs.Ythdbmbabfngakaa.K
set_option linter.unusedSimpArgs false
set_option linter.unusedVariables false
set_option maxRecDepth 100000
set_option maxHeartbeats 4000000
theorem kidsG (F : PH) (b1 : Nat) (ar av : Value) (g : Gr) (k : Int) (h1 : ar.oneCell' = true) (ha : Nodes F av g.nodes) (hb : F b1 = some (.cells #[ar, av] 25 (0, 0))) (h0 : 0 ≤ k) (hk : k < g.nodes.length) (hlen : ∀ m ∈ g.nodes, m.kids.length ≤ 1000000) :
    PFn Try.prog 21 [.int .i64 k, .pointer (some ⟨b1, 0, none⟩)] F (fun v F' => Ints F' v (realKids g k)) := by
  have ha' := ha
  obtain ⟨pa, ca, rfl, hl1, hl2⟩ := ha.val
  obtain ⟨i, rfl⟩ : ∃ i : Nat, k = i := ⟨k.toNat, by omega⟩
  have hi : i < g.nodes.length := by omega
  obtain ⟨q, _, cs, eq, _, _, kl, kr⟩ := ha'.elem (by decide) (i := i) (a := g.nodes[i]) (List.getElem?_eq_getElem hi) RNd.len
  cases eq
  obtain ⟨vn, vk, rfl, hn, hkk⟩ := kr
  have k3 := cell_at kl (o := 3) rfl
  have l1 : F.cells ⟨b1, 0, none⟩ 2 = some [ar, .slice (some q) g.nodes.length ca] := cells_blk hb rfl
  have c1 : F.cell ⟨b1, 1, none⟩ = some (.slice (some q) g.nodes.length ca) := by rw [cell_one hb]; rfl
  refine Fn.intro (n := 12) (ts := [3]) Try.func21 rfl rfl rfl rfl (by simp) fun B hB => VC.go 100 ?_
  simp only [push_cast, ↓reduceIte, Nat.reduceEqDiff, Nat.reduceAdd, Nat.reduceMul, Nat.reduceSub, Nat.reduceLT, Nat.reduceLeDiff, reduceCtorEq, Nat.reduceMod, Int.reduceEq, Int.reduceLT, Int.reduceLE, Int.reduceToNat, dite_true]
  refine VC.draw (.q 0 (.q 1 (.q 2 (.q 3 (.q 4 (.q 5 (.q 6 (.e 7 (.q 8 (.done)))))))))) mixed (by rfl) ?_
  simp only [push_cast, ↓reduceIte, Nat.reduceEqDiff, Nat.reduceAdd, Nat.reduceMul, Nat.reduceSub, Nat.reduceLT, Nat.reduceLeDiff, reduceCtorEq, Nat.reduceMod, Int.reduceEq, Int.reduceLT, Int.reduceLE, Int.reduceToNat, dite_true, add_own, l1, c1, hk, h0, k3]
  refine CallV.pure (reals F ar _ vk g.nodes (g.nodes[i]).kids h1 ha' hkk (hlen _ (List.getElem_mem hi))) ?_
  intro v F' hF hv
  simp only [push_cast, ↓reduceIte, Nat.reduceEqDiff, Nat.reduceAdd, Nat.reduceMul, Nat.reduceSub, Nat.reduceLT, Nat.reduceLeDiff, reduceCtorEq, Nat.reduceMod, Int.reduceEq, Int.reduceLT, Int.reduceLE, Int.reduceToNat, dite_true]
  refine VC.go 100 ?_
  simp only [push_cast, ↓reduceIte, Nat.reduceEqDiff, Nat.reduceAdd, Nat.reduceMul, Nat.reduceSub, Nat.reduceLT, Nat.reduceLeDiff, reduceCtorEq, Nat.reduceMod, Int.reduceEq, Int.reduceLT, Int.reduceLE, Int.reduceToNat, dite_true]
  refine RetOk.p rfl ?_
  have : realKids g (i : Int) = (g.nodes[i]).kids.map (real g.nodes.length) := by unfold realKids kidsOf; simp [hi]
  rw [this]
  exact hv
structure MSt where
  tl : List (Value × List Int)
  met : List Int
  es : Array MapEntry
  c : Nat
  va : Value
  ra : PH
  vt : Value
  rt : PH
  F : PH
theorem meetG (g : Gr) (F : PH) (bw bm : Nat) (kf : FuncId) (kc : Array Value) (vl va : Value) (ra : PH) (l met : List Int) (es : Array MapEntry) (c : Nat) (hl : Ints F vl l) (hlr : Reals g.nodes.length l) (hn : g.nodes.length ≤ 1000000) (hmet : Met g.nodes.length met)
    (hes : MapAs (Value.int .i64) es (idxMap met)) (hra : Row ra 3 1 va (met.map (.int .i64))) (hkids : ∀ F1, F.le F1 → ∀ x : Int, 0 ≤ x → x < g.nodes.length → PFn Try.prog kf (.int .i64 x :: kc.toList) F1 (fun v F' => Ints F' v (realKids g x))) :
    Eng.Fn Try.prog 23 [.pointer (some ⟨bw, 0, none⟩), vl] F [cell1 bw 47 [.map (some bm), va, .func (.func kf) #[] kc], PH.one bm (.map es c), ra]
      (fun _ F' R' => ∃ es' c' va' ra', R' = [cell1 bw 47 [.map (some bm), va', .func (.func kf) #[] kc], PH.one bm (.map es' c'), ra'] ∧ MapAs (Value.int .i64) es' (idxMap (visits g (full g) l met)) ∧ Row ra' 3 1 va' ((visits g (full g) l met).map (.int .i64))) := by
  have hl' := hl
  obtain ⟨px, cx, rfl, hx1, hx2, hx3⟩ := hl
  refine Fn.intro (n := 85) (ts := []) Try.func23 rfl rfl rfl rfl (by simp) fun B hB => ?_
  refine VC.fromR 0 (.refl _) (VC.reN [(1, .v (.slice px l.length cx)), (0, .o 0 bw 0)] 2 (by simp [subv, Eng.look, AV.val, initL]) ?_)
  refine VC.scope (VC.seq (VC.region ?_))
  refine VC.eff (st := false) rfl rfl (Eff.quiet (y := .v (.slice px l.length cx)) rfl ?_)
  refine VC.eff (st := false) rfl rfl (Eff.bslR (e := 22) (cs := [.slice px l.length cx]) rfl rfl fun bt => ?_)
  refine VC.eff (st := false) rfl rfl (Eff.quiet (y := .v (.slice (some ⟨bt, 0, none⟩) 1 1)) rfl ?_)
  refine VC.opsnil (VC.seq (VC.label (VC.block ?_)))
  refine VC.loopW (ι := MSt) (fun s => [(4, .v s.vt), (0, .o 0 bw 0)]) (fun s => [⟨0, bw, 47, [.map (some bm), s.va, .func (.func kf) #[] kc]⟩]) (fun s => s.F) (fun s => [s.rt, PH.one bm (.map s.es s.c), s.ra])
    (fun s => F.le s.F ∧ stack g (s.tl.map Prod.snd) s.met = visits g (full g) l met ∧ Met g.nodes.length s.met ∧ (∀ p ∈ s.tl, Ints s.F p.1 p.2 ∧ Reals g.nodes.length p.2) ∧ MapAs (Value.int .i64) s.es (idxMap s.met) ∧ Row s.ra 3 1 s.va (s.met.map (.int .i64)) ∧ Row s.rt 22 1 s.vt (s.tl.map Prod.fst).reverse ∧ s.tl.length ≤ s.met.length + 1)
    (fun s => 2 * (g.nodes.length - s.met.length) + s.tl.length) ⟨[(.slice px l.length cx, l)], met, es, c, va, ra, .slice (some ⟨bt, 0, none⟩) 1 1, cell1 bt 22 [.slice px l.length cx], F⟩
    ⟨PH.le_refl _, rfl, hmet, by simp; exact ⟨hl', hlr⟩, hes, hra, Row.back (m := 1) (c := 1) rfl (Nat.le_refl _) one_max, by simp⟩ (by simp [subk, Eng.look, setk, rmk]) (List.Sublist.refl _) rfl (subR_refl _) ?_
  rintro ⟨tl, met1, es1, c1, va1, ra1, vt, rt, F1⟩ ⟨hF1, hst, hmet1, htl, hes1, hra1, hrt, hlen⟩ G hG
  dsimp only at hF1 hst hmet1 htl hes1 hra1 hrt hlen hG ⊢
  have hml := hmet1.len
  cases tl with
  | nil =>
    obtain ⟨p, m, cc, rfl, hm, _⟩ := hrt.len
    obtain rfl : m = 0 := by simpa using hm.symm
    refine VC.go 100 ?_
    simp only [push_cast, ↓reduceIte, Nat.reduceEqDiff, Nat.reduceAdd, Nat.reduceMul, Nat.reduceSub, Nat.reduceLT, Nat.reduceLeDiff, reduceCtorEq, Nat.reduceMod, Int.reduceEq, Int.reduceLT, Int.reduceLE, Int.reduceToNat, dite_true]
    have hst' : met1 = visits g (full g) l met := hst
    rw [← hst']
    exact ⟨_, _, rfl, RetR.ownSub (i := 0) rfl (.cons _ (List.Sublist.refl _)), es1, c1, va1, ra1, rfl, hes1, hra1⟩
  | cons p rest =>
  obtain ⟨v, l1⟩ := p
  obtain ⟨hv, hlr1⟩ := htl (v, l1) List.mem_cons_self
  dsimp only at hv hlr1
  have hv' := hv
  obtain ⟨pv, cv, rfl, hv1, hv2, hv3⟩ := hv
  simp only [List.map_cons, List.reverse_cons, List.length_cons] at hrt hlen hG
  obtain ⟨pt, m, ct, rfl, hm, hmc, hct⟩ := hrt.has (by simp)
  obtain rfl : m = rest.length + 1 := by simpa using hm.symm
  refine VC.rowM 1 (.refl _) hrt fun gt cs e1 e2 e3 e4 e5 => ?_
  subst e1
  rw [Nat.mul_one] at e2 e5
  have hcsn : cs[rest.length]? = some (.slice pv l1.length cv) := by
    have : (cs.take (rest.length + 1))[rest.length]? = some (.slice pv l1.length cv) := by rw [e5]; simp
    rwa [List.getElem?_take_of_lt (by omega)] at this
  have hm1 : IntKind.i64.wrap ((rest.length : Int) + 1 - 1) = (rest.length : Int) := by
    rw [show (rest.length : Int) + 1 - 1 = rest.length from by omega]
    exact IntWalk.i64_in _ (by omega)
  have hpos : (0 : Int) < (rest.length : Int) + 1 := by omega
  have hlt : (rest.length : Int) < (rest.length : Int) + 1 := by omega
  have h00 : (0 : Int) ≤ (rest.length : Int) := by omega
  refine VC.reL [(4, .s 1 gt 0 (rest.length + 1) ct), (0, .o 0 bw 0)] (by simp [subv, Eng.look, AV.val]) ?_
  refine VC.permM (List.Perm.swap _ _ _) ?_
  refine VC.go 100 ?_
  simp only [push_cast, ↓reduceIte, Nat.reduceEqDiff, Nat.reduceAdd, Nat.reduceMul, Nat.reduceSub, Nat.reduceLT, Nat.reduceLeDiff, reduceCtorEq, Nat.reduceMod, Int.reduceEq, Int.reduceLT, Int.reduceLE, Int.reduceToNat, dite_true, hpos, hm1, hlt, h00, hcsn]
  refine VC.loopL (ι := Nat) (fun i => [(23, .v (.int .i64 i)), (22, .v (.int .i64 l1.length)), (21, .v (.slice pv l1.length cv)), (5, .v (.int .i64 rest.length)), (4, .s 1 gt 0 (rest.length + 1) ct), (0, .o 0 bw 0)]) (fun i => i ≤ l1.length ∧ ∀ y ∈ l1.take i, y < 0 ∨ y ∈ met1) (fun i => l1.length - i) 0 ⟨Nat.zero_le _, by simp⟩ (by simp [subk, Eng.look]) ?_
  rintro i ⟨hi, hold⟩ G1 hG1
  dsimp only at hG1 ⊢
  by_cases h : i < l1.length
  case neg =>
    have h' : ¬ (i : Int) < (l1.length : Int) := by omega
    rw [List.take_of_length_le (by omega)] at hold
    refine VC.go 5 ?_
    simp only [push_cast, ↓reduceIte, Nat.reduceEqDiff, Nat.reduceAdd, Nat.reduceMul, Nat.reduceSub, Nat.reduceLT, Nat.reduceLeDiff, reduceCtorEq, Nat.reduceMod, Int.reduceEq, Int.reduceLT, Int.reduceLE, Int.reduceToNat, dite_true, h']
    refine VC.permM (List.Perm.swap _ _ _) ?_
    refine VC.toR (List.Perm.refl _) [(5, .v (.int .i64 rest.length)), (4, .v (.slice (some ⟨gt, 0, none⟩) (rest.length + 1) ct)), (0, .o 0 bw 0)] (by simp [subv, Eng.look, AV.val]) (VC.go 100 ?_)
    have hle : (rest.length : Int) ≤ (ct : Int) := by omega
    have hct0 : ¬ ct = 0 := by omega
    simp only [push_cast, ↓reduceIte, Nat.reduceEqDiff, Nat.reduceAdd, Nat.reduceMul, Nat.reduceSub, Nat.reduceLT, Nat.reduceLeDiff, reduceCtorEq, Nat.reduceMod, Int.reduceEq, Int.reduceLT, Int.reduceLE, Int.reduceToNat, dite_true, hle, hct0, Nat.zero_mul, add_own]
    have hb := Row.back (g := gt) (e := 22) (sz := 1) (m := rest.length) (c := ct) (cs := cs) (by rw [e2, Nat.mul_one]) (by omega) e4
    refine hG ⟨rest, met1, es1, c1, va1, ra1, .slice (some ⟨gt, 0, none⟩) rest.length ct, cell1 gt 22 cs, F1⟩ _ ⟨hF1, by rw [← hst]; exact (stack_pop g hold).symm, hmet1, fun p hp => htl p (List.mem_cons_of_mem _ hp), hes1, hra1, ?_, by dsimp only; omega⟩ (by simp) ?_ (List.Sublist.refl _) rfl (subR_refl _)
    · rw [Nat.mul_one, show cs.take rest.length = (cs.take (rest.length + 1)).take rest.length from by rw [List.take_take, Nat.min_eq_left (by omega)], e5, List.take_left' (by simp)] at hb
      exact hb
    · simp [subk, Eng.look, add_zero']
  have h' : (i : Int) < (l1.length : Int) := by omega
  have h0 : (0 : Int) ≤ (i : Int) := by omega
  obtain ⟨qx, rfl, hqx⟩ := hv3.elem1 (i := i) (v := .int .i64 l1[i]) (by simp [h])
  have ew : IntKind.i64.wrap ((i : Int) + 1) = ((i + 1 : Nat) : Int) := wadd i h (Nat.le_trans hv1 hv2)
  have hxr := hlr1 l1[i] (List.getElem_mem h)
  refine VC.go 100 ?_
  simp only [push_cast, ↓reduceIte, Nat.reduceEqDiff, Nat.reduceAdd, Nat.reduceMul, Nat.reduceSub, Nat.reduceLT, Nat.reduceLeDiff, reduceCtorEq, Nat.reduceMod, Int.reduceEq, Int.reduceLT, Int.reduceLE, Int.reduceToNat, dite_true, h', h0, hqx]
  refine Eff.lookup (keyInt .i64) rfl ty43 rfl Try.underlying3 ty3 rfl rfl (.inr ⟨_, List.mem_cons_self, PH.one_self _ _⟩) hes1 ?_
  by_cases hx : l1[i] ∈ met1
  · have hg : mget (idxMap met1) l1[i] = some (.int .i64 (idx met1 l1[i])) := by rw [mget_idx, if_pos hx]
    simp only [push_cast, ↓reduceIte, Nat.reduceEqDiff, Nat.reduceAdd, Nat.reduceMul, Nat.reduceSub, Nat.reduceLT, Nat.reduceLeDiff, reduceCtorEq, Nat.reduceMod, Int.reduceEq, Int.reduceLT, Int.reduceLE, Int.reduceToNat, dite_true, hg, Option.getD_some, ew]
    refine hG1 (i + 1) _ ⟨h, fun y hy => ?_⟩ (by omega) (by simp [subk, Eng.look]) (List.Sublist.refl _) rfl rfl
    rw [List.take_succ_eq_append_getElem h] at hy
    rcases List.mem_append.1 hy with hy | hy
    · exact hold y hy
    · rw [List.mem_singleton.1 hy]; exact .inr hx
  have hg : mget (idxMap met1) l1[i] = none := by rw [mget_idx, if_neg hx]
  by_cases hneg : l1[i] < 0
  · simp only [push_cast, ↓reduceIte, Nat.reduceEqDiff, Nat.reduceAdd, Nat.reduceMul, Nat.reduceSub, Nat.reduceLT, Nat.reduceLeDiff, reduceCtorEq, Nat.reduceMod, Int.reduceEq, Int.reduceLT, Int.reduceLE, Int.reduceToNat, dite_true, hg, Option.getD_none, eq_true hneg, ew]
    refine hG1 (i + 1) _ ⟨h, fun y hy => ?_⟩ (by omega) (by simp [subk, Eng.look]) (List.Sublist.refl _) rfl rfl
    rw [List.take_succ_eq_append_getElem h] at hy
    rcases List.mem_append.1 hy with hy | hy
    · exact hold y hy
    · rw [List.mem_singleton.1 hy]; exact .inl hneg
  have hx0 : 0 ≤ l1[i] := by omega
  obtain ⟨pa, ma, ca, rfl, hma, _⟩ := hra1.len
  obtain rfl : ma = met1.length := by simpa using hma.symm
  simp only [push_cast, ↓reduceIte, Nat.reduceEqDiff, Nat.reduceAdd, Nat.reduceMul, Nat.reduceSub, Nat.reduceLT, Nat.reduceLeDiff, reduceCtorEq, Nat.reduceMod, Int.reduceEq, Int.reduceLT, Int.reduceLE, Int.reduceToNat, dite_true, hg, Option.getD_none, hneg]
  refine VC.draw (.q 0 (.q 1 (.q 2 (.q 3 (.q 4 (.q 5 (.q 6 (.q 7 (.q 8 (.q 9 (.e 10 (.done)))))))))))) mixed (by rfl) ?_
  simp only [push_cast, ↓reduceIte, Nat.reduceEqDiff, Nat.reduceAdd, Nat.reduceMul, Nat.reduceSub, Nat.reduceLT, Nat.reduceLeDiff, reduceCtorEq, Nat.reduceMod, Int.reduceEq, Int.reduceLT, Int.reduceLE, Int.reduceToNat, dite_true]
  refine Eff.update (keyInt .i64) rfl rfl ty43 rfl Try.underlying3 rfl rfl rfl (List.Perm.refl _) hes1 fun es2 c2 hes2 => ?_
  rw [AV.val_v, mput_idx hx] at hes2
  refine VC.go 4 ?_
  simp only [push_cast, ↓reduceIte, Nat.reduceEqDiff, Nat.reduceAdd, Nat.reduceMul, Nat.reduceSub, Nat.reduceLT, Nat.reduceLeDiff, reduceCtorEq, Nat.reduceMod, Int.reduceEq, Int.reduceLT, Int.reduceLE, Int.reduceToNat, dite_true]
  intro b58 F2 hF2 hb58
  refine Eff.append (xs := met1.map (.int .i64)) (ys := [.int .i64 l1[i]]) rfl rfl rfl ty22 rfl ty3 rfl (by decide) rfl rfl (List.Perm.swap _ _ _) hra1 (Src.blk hb58 rfl) (by simp [Value.oneCell']) (by simp; omega) (by decide) ?_
  intro va2 ra2 hra2
  have hra2' : Row ra2 3 1 va2 ((met1 ++ [l1[i]]).map (.int .i64)) := by rw [List.map_append]; exact hra2
  obtain ⟨pa2, ma2, ca2, rfl, _⟩ := hra2'.len
  have hcs1 : rest.length < cs.length := by omega
  have hcut : (i : Int) + 1 ≤ (l1.length : Int) := by omega
  have hcut0 : (0 : Int) ≤ (i : Int) + 1 := by omega
  have etn : ((i : Int) + 1).toNat = i + 1 := by omega
  simp only [push_cast, ↓reduceIte, Nat.reduceEqDiff, Nat.reduceAdd, Nat.reduceMul, Nat.reduceSub, Nat.reduceLT, Nat.reduceLeDiff, reduceCtorEq, Nat.reduceMod, Int.reduceEq, Int.reduceLT, Int.reduceLE, Int.reduceToNat, dite_true, hlt, h00, hcs1, hcsn, ew, hcut, hcut0, etn]
  refine VC.permM (List.Perm.swap _ _ _) ?_
  refine VC.toR (List.Perm.refl _) [(7, .v (.int .i64 l1[i])), (4, .v (.slice (some ⟨gt, 0, none⟩) (rest.length + 1) ct)), (0, .o 0 bw 0)] (by simp [subv, Eng.look, AV.val]) (VC.go 100 ?_)
  have hF12 := PH.le_trans hF1 hF2
  simp only [push_cast, ↓reduceIte, Nat.reduceEqDiff, Nat.reduceAdd, Nat.reduceMul, Nat.reduceSub, Nat.reduceLT, Nat.reduceLeDiff, reduceCtorEq, Nat.reduceMod, Int.reduceEq, Int.reduceLT, Int.reduceLE, Int.reduceToNat, dite_true, List.append_nil]
  refine CallV.pure (hkids F2 hF12 l1[i] hx0 hxr) ?_
  intro vk F3 hF3 hk
  have hk' := hk
  obtain ⟨pk, ck, rfl, _⟩ := hk'
  simp only [push_cast, ↓reduceIte, Nat.reduceEqDiff, Nat.reduceAdd, Nat.reduceMul, Nat.reduceSub, Nat.reduceLT, Nat.reduceLeDiff, reduceCtorEq, Nat.reduceMod, Int.reduceEq, Int.reduceLT, Int.reduceLE, Int.reduceToNat, dite_true]
  intro b79 F4 hF4 hb79
  obtain ⟨vd, hvd⟩ : ∃ vd, vd = Value.slice (if cv = i + 1 then some qx else Option.map (fun x => x.add (i + 1)) (some qx)) (l1.length - (i + 1)) (cv - (i + 1)) := ⟨_, rfl⟩
  have hvdI : Ints F1 vd (l1.drop (i + 1)) := by
    have := Sl.drop hv' (k := i + 1) h
    rw [Nat.mul_one] at this
    rw [hvd]
    unfold Ints
    rw [List.length_drop, List.map_drop]
    exact this
  rw [← hvd]
  have hrow := Row.back (g := gt) (e := 22) (sz := 1) (m := rest.length + 1) (c := ct) (cs := cs.set rest.length vd) (by rw [List.length_set, e2, Nat.mul_one]) e3 e4
  rw [Nat.mul_one, List.take_set, e5, List.set_append, if_neg (by simp), List.length_reverse, List.length_map, Nat.sub_self, List.set_cons_zero] at hrow
  refine Eff.append (ys := [.slice pk (realKids g l1[i]).length ck]) rfl rfl rfl ty54 rfl ty22 rfl (by decide) rfl rfl (List.Perm.refl _) hrow (Src.blk hb79 rfl) (by simp [Value.oneCell']) (by simp; omega) (by decide) ?_
  intro vt2 rt2 hrt2
  simp only [push_cast, ↓reduceIte, Nat.reduceEqDiff, Nat.reduceAdd, Nat.reduceMul, Nat.reduceSub, Nat.reduceLT, Nat.reduceLeDiff, reduceCtorEq, Nat.reduceMod, Int.reduceEq, Int.reduceLT, Int.reduceLE, Int.reduceToNat, dite_true]
  have hF14 := PH.le_trans hF2 (PH.le_trans hF3 hF4)
  have hsplit : l1 = l1.take i ++ l1[i] :: l1.drop (i + 1) := by rw [List.getElem_cons_drop h, List.take_append_drop]
  have hlm : met1.length < g.nodes.length := by
    have := (hmet1.snoc hx0 hxr hx).len
    simp at this; omega
  refine hG ⟨(.slice pk (realKids g l1[i]).length ck, realKids g l1[i]) :: (vd, l1.drop (i + 1)) :: rest, met1 ++ [l1[i]], es2, c2, .slice pa2 ma2 ca2, ra2, vt2, rt2, F4⟩ _ ⟨PH.le_trans hF1 hF14, ?_, hmet1.snoc hx0 hxr hx, ?_, hes2, hra2', ?_, ?_⟩ ?_ ?_ (List.Sublist.refl _) rfl (subR_perm (List.Perm.cons _ (List.Perm.swap _ _ _)))
  · rw [← hst]
    simp only [List.map_cons]
    rw [← stack_push g hold hx0 hxr hmet1 hx]
    congr 2
    exact hsplit.symm
  · intro p hp
    simp only [List.mem_cons] at hp
    rcases hp with rfl | rfl | hp
    · exact ⟨hk.mono hF4, reals_kids g _⟩
    · exact ⟨hvdI.mono hF14, fun y hy => hlr1 y (List.mem_of_mem_drop hy)⟩
    · exact ⟨(htl p (List.mem_cons_of_mem _ hp)).1.mono hF14, (htl p (List.mem_cons_of_mem _ hp)).2⟩
  · simp only [List.map_cons, List.reverse_cons]
    exact hrt2
  · simp; omega
  · simp; omega
  · simp [subk, Eng.look]
end Go.Proofs.Ythdbmbabfngakaa.G
