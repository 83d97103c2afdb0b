/- Names that are turned into others: the walk over names, atoms, binds. (Written by gen/a3.py.) -/
import Derived.Test.YtoepmdbicdoieaaDoorA2
namespace Go.Proofs.YtoepmdbicdoieaaDoor.M
open Go Go.Eng Go.Proofs Go.Proofs.YtoepmdbicdoieaaDoor.T Go.Proofs.YtoepmdbicdoieaaDoor.K
set_option linter.unusedSimpArgs false
set_option linter.unusedVariables false
set_option maxRecDepth 100000
set_option maxHeartbeats 4000000
theorem turned (F : PH) (s : ByteArray) (hs : s.size ≤ 100000000) : PFn Tryd.prog 14 [.string s] F (fun v _ => v = .string (turn s)) := by
  refine Fn.intro (n := 12) (ts := [2]) Tryd.func14 rfl rfl rfl rfl (by simp) fun B hB => VC.go 100 ?_
  by_cases g2 : s = ⟨#[]⟩
  · simp only [push_cast, ↓reduceIte, Nat.reduceEqDiff, Nat.reduceAdd, Nat.reduceMul, Nat.reduceSub, Nat.reduceLT, Nat.reduceLeDiff, reduceCtorEq, Nat.reduceMod, Int.reduceEq, Int.reduceLT, Int.reduceLE, Int.reduceToNat, dite_true, eq_true g2]
    exact RetOk.p rfl (by rw [turn, if_pos (.inr g2)]; rfl)
  by_cases g1 : s = mainB
  · have g1' : s = ⟨#[109, 97, 105, 110]⟩ := g1
    simp only [push_cast, ↓reduceIte, Nat.reduceEqDiff, Nat.reduceAdd, Nat.reduceMul, Nat.reduceSub, Nat.reduceLT, Nat.reduceLeDiff, reduceCtorEq, Nat.reduceMod, Int.reduceEq, Int.reduceLT, Int.reduceLE, Int.reduceToNat, dite_true, g2, eq_true g1']
    exact RetOk.p rfl (by rw [turn, if_pos (.inl g1)]; rfl)
  have g1' : ¬ s = ⟨#[109, 97, 105, 110]⟩ := g1
  have hz : ByteArray.size { data := #[113] } + s.size ≤ 9223372036854775807 := by
    have : ByteArray.size { data := #[113] } = 1 := rfl
    omega
  simp only [push_cast, ↓reduceIte, Nat.reduceEqDiff, Nat.reduceAdd, Nat.reduceMul, Nat.reduceSub, Nat.reduceLT, Nat.reduceLeDiff, reduceCtorEq, Nat.reduceMod, Int.reduceEq, Int.reduceLT, Int.reduceLE, Int.reduceToNat, dite_true, g1', g2, hz]
  exact RetOk.p rfl (by rw [turn, if_neg (fun h => h.elim g1 g2)]; rfl)
theorem mem_sizeS {s : ByteArray} : ∀ {l : List ByteArray}, s ∈ l → s.size + 1 ≤ sizeS l
  | a :: l, h => by
    simp only [sizeS]
    rcases List.mem_cons.1 h with rfl | h
    · omega
    · have := mem_sizeS h; omega
theorem mem_sizeA {s : ByteArray × Int} : ∀ {l : List (ByteArray × Int)}, s ∈ l → s.1.size + 1 ≤ sizeA l
  | a :: l, h => by
    simp only [sizeA]
    rcases List.mem_cons.1 h with rfl | h
    · omega
    · have := mem_sizeA h; omega
theorem turnedAll (F : PH) (lv : Value) (l : List ByteArray) (hl : Strs F lv l) (hb : sizeS l ≤ 100000000) : RowS Tryd.prog 27 [lv] F (l.map turn) := by
  have hlen := sizeS_len l
  obtain ⟨pl, cl, rfl, hl1, hl2, hl3⟩ := hl
  refine Fn.intro (n := 20) (ts := [2]) Tryd.func27 rfl rfl rfl rfl (by simp) fun B hB => VC.emp ?_
  refine VC.go 100 ?_
  simp only [push_cast, ↓reduceIte, Nat.reduceEqDiff, Nat.reduceAdd, Nat.reduceMul, Nat.reduceSub, Nat.reduceLT, Nat.reduceLeDiff, reduceCtorEq, Nat.reduceMod, Int.reduceEq, Int.reduceLT, Int.reduceLE, Int.reduceToNat, dite_true]
  refine VC.loopP (ι := Nat × Value × PH × PH) (fun i => [(4, .v (.int .i64 i.1)), (3, .v i.2.1), (0, .v (.slice pl l.length cl))]) (fun i => i.2.2.1) (fun i => [i.2.2.2]) (fun i => i.1 ≤ l.length ∧ F.le i.2.2.1 ∧ Row i.2.2.2 9 1 i.2.1 (((l.take i.1).map turn).map .string)) (fun i => l.length - i.1) (0, .slice none 0 0, F, PH.emp) ⟨Nat.zero_le _, PH.le_refl _, Row.nil _ _⟩ (by simp [subk, Eng.look]) rfl (subR_refl _) ?_
  rintro ⟨k, v, F1, r⟩ ⟨hk, hF1, hrow⟩ G hG
  dsimp only at hk hF1 hrow hG ⊢
  refine VC.go 100 ?_
  by_cases h : k < l.length
  case neg =>
    have h' : ¬ (k : Int) < (l.length : Int) := by omega
    simp only [push_cast, ↓reduceIte, Nat.reduceEqDiff, Nat.reduceAdd, Nat.reduceMul, Nat.reduceSub, Nat.reduceLT, Nat.reduceLeDiff, reduceCtorEq, Nat.reduceMod, Int.reduceEq, Int.reduceLT, Int.reduceLE, Int.reduceToNat, dite_true, h']
    rw [List.take_of_length_le (by omega)] at hrow
    exact ⟨_, [r], rfl, RetR.refl _, r, rfl, hrow⟩
  have h' : (k : Int) < (l.length : Int) := by omega
  have h0 : (0 : Int) ≤ (k : Int) := by omega
  obtain ⟨a, rfl, ha⟩ := (hl3.mono hF1).elem1 (i := k) (v := .string l[k]) (by simp [h])
  have e2 : IntKind.i64.wrap ((k : Int) + 1) = ((k + 1 : Nat) : Int) := wadd k h (Nat.le_trans hl1 hl2)
  have hms := mem_sizeS (List.getElem_mem h)
  simp only [push_cast, ↓reduceIte, Nat.reduceEqDiff, Nat.reduceAdd, Nat.reduceMul, Nat.reduceSub, Nat.reduceLT, Nat.reduceLeDiff, reduceCtorEq, Nat.reduceMod, Int.reduceEq, Int.reduceLT, Int.reduceLE, Int.reduceToNat, dite_true, h', h0, ha]
  refine CallV.pure (turned F1 l[k] (by omega)) ?_
  rintro _ F2 hF2 rfl
  simp only [push_cast, ↓reduceIte, Nat.reduceEqDiff, Nat.reduceAdd, Nat.reduceMul, Nat.reduceSub, Nat.reduceLT, Nat.reduceLeDiff, reduceCtorEq, Nat.reduceMod, Int.reduceEq, Int.reduceLT, Int.reduceLE, Int.reduceToNat, dite_true]
  intro b F3 hF3 hb3
  refine Eff.append (xs := ((l.take k).map turn).map .string) (ys := [.string (turn l[k])]) rfl rfl rfl ty44 rfl ty9 rfl (by decide) rfl rfl (List.Perm.refl _) hrow (Src.blk hb3 rfl) (by simp [Value.oneCell']) (by simp; omega) (by decide) ?_
  intro v' r' hrow'
  simp only [push_cast, ↓reduceIte, Nat.reduceEqDiff, Nat.reduceAdd, Nat.reduceMul, Nat.reduceSub, Nat.reduceLT, Nat.reduceLeDiff, reduceCtorEq, Nat.reduceMod, Int.reduceEq, Int.reduceLT, Int.reduceLE, Int.reduceToNat, dite_true, e2]
  exact hG (k + 1, v', F3, r') _ ⟨by omega, PH.le_trans hF1 (PH.le_trans hF2 hF3), by rw [List.take_succ_eq_append_getElem h, List.map_append, List.map_append]; exact hrow'⟩ (by simp; omega) (by simp [subk, Eng.look]) (by simp) rfl (subR_refl _)
/-- The contract of the turning of one expression. -/
def ExpT (e : Exp) : Prop := ∀ (F : PH) (va w1 we wl : Value), ExpAt F e va w1 we wl → e.size ≤ 10000000 → PFn Tryd.prog 28 [.agg (expCells e va w1 we wl).toArray] F (fun v F' => ∃ cs, v = .agg cs.toArray ∧ RExp F' (turnE e) cs)
theorem each_snoc {α : Type} {R : α → List Value → Prop} : ∀ {l : List α} {xs ys : List Value} {a : α}, Each R l xs → R a ys → Each R (l ++ [a]) (xs ++ ys)
  | [], xs, ys, a, h1, h2 => by simp only [Each] at h1; subst h1; exact ⟨ys, [], by simp, h2, rfl⟩
  | b :: l, xs, ys, a, ⟨c, zs, e, h1, h3⟩, h2 => by
    subst e
    exact ⟨c, zs ++ ys, by simp, h1, each_snoc h3 h2⟩
theorem row_sle {α : Type} {R : α → List Value → Prop} {r F : PH} {t : TypeId} {sz : Nat} {v : Value} {xs : List Value} {l : List α} (hpos : 0 < sz) (hsz : ∀ a c, R a c → c.length = sz) (hr : Row r t sz v xs) (he : Each R l xs) (hl : r.le F) : SlE F sz R v l := by
  obtain ⟨m, h1, h2⟩ := hr.sl hl
  have h3 := Each.len hsz he
  rw [h1] at h3
  have hm : m = l.length := Nat.eq_of_mul_eq_mul_right hpos h3
  subst hm
  exact ⟨xs, h2, he⟩
theorem bind_turned {F : PH} {bd : Bind} {v va w1 we wl : Value} (hs : Strs F v (bd.args.map turn)) (hy : ExpAt F (turnE bd.body) va w1 we wl) : RBind F (turnB bd) (.string (turn bd.name) :: .int .i64 bd.at_ :: v :: expCells (turnE bd.body) va w1 we wl) := by
  cases bd
  exact RBind_iff.2 ⟨v, _, rfl, hs, RExp_iff.2 ⟨_, _, _, _, rfl, hy⟩⟩
theorem alt_turned {F : PH} {a : Alt} {nm : ByteArray} {v va w1 we wl : Value} (hn : nm = if a.kind = 3 then turn a.name else a.name) (hs : Strs F v (a.vars.map turn)) (hy : ExpAt F (turnE a.body) va w1 we wl) : RAlt F (turnL a) (.int .i64 a.kind :: .int .i64 a.at_ :: .string nm :: .int .i64 a.n :: v :: expCells (turnE a.body) va w1 we wl) := by
  subst hn
  cases a
  exact RAlt_iff.2 ⟨v, _, rfl, hs, RExp_iff.2 ⟨_, _, _, _, rfl, hy⟩⟩
theorem binds (l : List Bind) (hE : ∀ b ∈ l, ExpT b.body) (F : PH) (vb : Value) (hl : SlE F 11 (RBind F) vb l) (hb : sizeBs l ≤ 10000000) :
    PFn Tryd.prog 12 [vb] F (fun v F' => SlE F' 11 (RBind F') v (turnBs l)) := by
  have hl' := hl
  have hcnt := sizeBs_count l
  obtain ⟨pl, cl, rfl, hl1, hl2⟩ := hl.val
  have key : Eng.Fn Tryd.prog 12 [.slice pl l.length cl] F [] (fun v F' R' => ∃ r xs, R' = [r] ∧ Row r 53 11 v xs ∧ Each (RBind F') (turnBs l) xs) := by
    refine Fn.intro (n := 35) (ts := [2]) Tryd.func12 rfl rfl rfl rfl (by simp) fun B hB => VC.emp ?_
    refine VC.go 100 ?_
    simp only [push_cast, ↓reduceIte, Nat.reduceEqDiff, Nat.reduceAdd, Nat.reduceMul, Nat.reduceSub, Nat.reduceLT, Nat.reduceLeDiff, reduceCtorEq, Nat.reduceMod, Int.reduceEq, Int.reduceLT, Int.reduceLE, Int.reduceToNat, dite_true]
    refine VC.loopP (ι := Nat × (Value × List Value) × PH × PH) (fun i => [(4, .v (.int .i64 i.1)), (3, .v i.2.1.1), (0, .v (.slice pl l.length cl))]) (fun i => i.2.2.1) (fun i => [i.2.2.2]) (fun i => i.1 ≤ l.length ∧ F.le i.2.2.1 ∧ Row i.2.2.2 53 11 i.2.1.1 i.2.1.2 ∧ Each (RBind i.2.2.1) (turnBs (l.take i.1)) i.2.1.2) (fun i => l.length - i.1) (0, (.slice none 0 0, []), F, PH.emp) ⟨Nat.zero_le _, PH.le_refl _, Row.nil _ _, rfl⟩ (by simp [subk, Eng.look]) rfl (subR_refl _) ?_
    rintro ⟨k, ⟨v, xs⟩, F1, r⟩ ⟨hk, hF1, hrow, hea⟩ G hG
    dsimp only at hk hF1 hrow hea hG ⊢
    refine VC.go 100 ?_
    by_cases h : k < l.length
    case neg =>
      have h' : ¬ (k : Int) < (l.length : Int) := by omega
      simp only [push_cast, ↓reduceIte, Nat.reduceEqDiff, Nat.reduceAdd, Nat.reduceMul, Nat.reduceSub, Nat.reduceLT, Nat.reduceLeDiff, reduceCtorEq, Nat.reduceMod, Int.reduceEq, Int.reduceLT, Int.reduceLE, Int.reduceToNat, dite_true, h']
      rw [List.take_of_length_le (by omega)] at hea
      exact ⟨_, [r], rfl, RetR.refl _, r, xs, rfl, hrow, hea⟩
    have h' : (k : Int) < (l.length : Int) := by omega
    have h0 : (0 : Int) ≤ (k : Int) := by omega
    have e2 : IntKind.i64.wrap ((k : Int) + 1) = ((k + 1 : Nat) : Int) := wadd k h (Nat.le_trans hl1 hl2)
    obtain ⟨q, _, cs, eq, _, _, kl, kr⟩ := (hl'.mono (R' := RBind F1) hF1 (fun _ _ _ h => h.mono hF1)).elem (by decide) (i := k) (a := l[k]) (List.getElem?_eq_getElem h) (fun _ _ h => h.len)
    cases eq
    have hmem : l[k] ∈ l := List.getElem_mem h
    have hsm := sizeBs_mem2 l k h
    have hse := bsize_eq l[k]
    have htk0 : l.take (k + 1) = l.take k ++ [l[k]] := List.take_succ_eq_append_getElem h
    obtain ⟨bd, hbk⟩ : ∃ bd, bd = l[k] := ⟨_, rfl⟩
    have htk : turnBs (l.take (k + 1)) = turnBs (l.take k) ++ [turnB bd] := by rw [htk0, turnBs_map, turnBs_map, List.map_append, hbk]; rfl
    rw [← hbk] at hsm hse kr hmem
    have hxl : xs.length = k * 11 := by
      have := Each.len (fun _ _ h => RBind.len h) hea
      rw [this, turnBs_map, List.length_map, List.length_take, Nat.min_eq_left hk]
    obtain ⟨wv, cc, rfl, hwv, hcc⟩ := RBind_iff.1 kr
    obtain ⟨xa, xb, xe, xl, rfl, hx⟩ := RExp_iff.1 hcc
    have hwv' := hwv
    obtain ⟨pv, cv, rfl, _, _, _⟩ := hwv
    have hx' := hx
    obtain ⟨_, _, _, _, _, _, _, _, rfl, rfl, rfl, rfl⟩ := hx.slices
    simp only [push_cast, ↓reduceIte, Nat.reduceEqDiff, Nat.reduceAdd, Nat.reduceMul, Nat.reduceSub, Nat.reduceLT, Nat.reduceLeDiff, reduceCtorEq, Nat.reduceMod, Int.reduceEq, Int.reduceLT, Int.reduceLE, Int.reduceToNat, dite_true, h', h0, kl]
    intro b5
    refine VC.draw (.q 0 (.q 1 (.q 2 (.q 4 (.q 5 (.q 6 (.q 7 (.q 8 (.q 10 (.q 11 (.q 12 (.e 3 (.e 9 (.e 13 (.e 14 (.e 15 (.e 16 (.e 17 (.e 18 (.done)))))))))))))))))))) mixed (by rfl) ?_
    simp only [push_cast, ↓reduceIte, Nat.reduceEqDiff, Nat.reduceAdd, Nat.reduceMul, Nat.reduceSub, Nat.reduceLT, Nat.reduceLeDiff, reduceCtorEq, Nat.reduceMod, Int.reduceEq, Int.reduceLT, Int.reduceLE, Int.reduceToNat, dite_true]
    refine CallV.pure (turned F1 bd.name (by omega)) ?_
    rintro _ F2 hF2 rfl
    simp only [push_cast, ↓reduceIte, Nat.reduceEqDiff, Nat.reduceAdd, Nat.reduceMul, Nat.reduceSub, Nat.reduceLT, Nat.reduceLeDiff, reduceCtorEq, Nat.reduceMod, Int.reduceEq, Int.reduceLT, Int.reduceLE, Int.reduceToNat, dite_true]
    refine CallV.sl (turnedAll F2 _ bd.args (hwv'.mono hF2) (by omega)) ?_
    intro v3 F3 m3 hF3 hm3 hv3
    have hs3 := sl_strs hm3 hv3
    clear hm3 hv3
    have hs3' := hs3
    obtain ⟨p3, c3, rfl, _, _, _⟩ := hs3
    simp only [push_cast, ↓reduceIte, Nat.reduceEqDiff, Nat.reduceAdd, Nat.reduceMul, Nat.reduceSub, Nat.reduceLT, Nat.reduceLeDiff, reduceCtorEq, Nat.reduceMod, Int.reduceEq, Int.reduceLT, Int.reduceLE, Int.reduceToNat, dite_true]
    refine CallV.pure (hE bd hmem F3 _ _ _ _ (hx'.mono (PH.le_trans hF2 hF3)) (by omega)) ?_
    rintro _ F4 hF4 ⟨cs4, rfl, hcs4⟩
    obtain ⟨ya, yb, ye, yl, rfl, hy⟩ := RExp_iff.1 hcs4
    have hy' := hy
    obtain ⟨_, _, _, _, _, _, _, _, rfl, rfl, rfl, rfl⟩ := hy.slices
    simp only [push_cast, ↓reduceIte, Nat.reduceEqDiff, Nat.reduceAdd, Nat.reduceMul, Nat.reduceSub, Nat.reduceLT, Nat.reduceLeDiff, reduceCtorEq, Nat.reduceMod, Int.reduceEq, Int.reduceLT, Int.reduceLE, Int.reduceToNat, dite_true]
    intro b34 F5 hF5 hb34
    refine Eff.append (xs := xs) (ys := .string (turn bd.name) :: .int .i64 bd.at_ :: .slice p3 (bd.args.map turn).length c3 :: expCells (turnE bd.body) _ _ _ _) rfl rfl rfl ty23 rfl ty53 rfl (by decide) rfl rfl (List.Perm.refl _) hrow (Src.blk hb34 rfl) (by simp [Value.oneCell']) (by simp; omega) (by decide) ?_
    intro v' r' hrow'
    simp only [push_cast, ↓reduceIte, Nat.reduceEqDiff, Nat.reduceAdd, Nat.reduceMul, Nat.reduceSub, Nat.reduceLT, Nat.reduceLeDiff, reduceCtorEq, Nat.reduceMod, Int.reduceEq, Int.reduceLT, Int.reduceLE, Int.reduceToNat, dite_true]
    refine VC.go 100 ?_
    simp only [push_cast, ↓reduceIte, Nat.reduceEqDiff, Nat.reduceAdd, Nat.reduceMul, Nat.reduceSub, Nat.reduceLT, Nat.reduceLeDiff, reduceCtorEq, Nat.reduceMod, Int.reduceEq, Int.reduceLT, Int.reduceLE, Int.reduceToNat, dite_true, e2]
    have hF15 := PH.le_trans hF2 (PH.le_trans hF3 (PH.le_trans hF4 hF5))
    refine hG (k + 1, (v', _), F5, r') _ ⟨by simp; omega, PH.le_trans hF1 hF15, hrow', ?_⟩ (by simp; omega) (by simp [subk, Eng.look]) (by simp) rfl (subR_refl _)
    dsimp only
    rw [htk]
    exact each_snoc (hea.mono fun _ _ _ h => h.mono hF15) (bind_turned (hs3'.mono (PH.le_trans hF4 hF5)) (hy'.mono hF5))
  exact Eng.Fn.frozen (Eng.Fn.mono key fun v F' R' hF q => q) fun v F' R' ⟨r, xs, e1, hrow, hea⟩ => ⟨r, [], by rw [e1], fun F'' k1 k2 => ⟨rfl, row_sle (by decide) (fun _ _ h => RBind.len h) hrow (hea.mono fun _ _ _ h => h.mono k1) k2⟩⟩
theorem turn_main_iff (s : ByteArray) : turn s = mainB ↔ s = mainB := ⟨fun h => turn_inj.1 (h.trans turn_main.symm), fun h => by rw [h, turn_main]⟩
theorem has (l : List Bind) (F : PH) (vb : Value) (hl : SlE F 11 (RBind F) vb l) (hb : sizeBs l ≤ 10000000) : PFn Tryd.prog 13 [vb] F (fun v _ => v = .bool false) := by
  have hl' := hl
  obtain ⟨pl, cl, rfl, hl1, hl2⟩ := hl.val
  refine Fn.intro (n := 25) (ts := [2]) Tryd.func13 rfl rfl rfl rfl (by simp) fun B hB => VC.go 100 ?_
  simp only [push_cast, ↓reduceIte, Nat.reduceEqDiff, Nat.reduceAdd, Nat.reduceMul, Nat.reduceSub, Nat.reduceLT, Nat.reduceLeDiff, reduceCtorEq, Nat.reduceMod, Int.reduceEq, Int.reduceLT, Int.reduceLE, Int.reduceToNat, dite_true]
  refine VC.loopF (ι := Nat × PH) (fun i => [(3, .v (.int .i64 i.1)), (0, .v (.slice pl l.length cl))]) (fun i => i.2) (fun i => i.1 ≤ l.length ∧ F.le i.2) (fun i => l.length - i.1) (0, F) ⟨Nat.zero_le _, PH.le_refl _⟩ (by simp [subk, Eng.look]) rfl ?_
  rintro ⟨k, F1⟩ ⟨hk, hF1⟩ G hG
  dsimp only at hk hF1 hG ⊢
  refine VC.go 100 ?_
  by_cases h : k < l.length
  case neg =>
    have h' : ¬ (k : Int) < (l.length : Int) := by omega
    simp only [push_cast, ↓reduceIte, Nat.reduceEqDiff, Nat.reduceAdd, Nat.reduceMul, Nat.reduceSub, Nat.reduceLT, Nat.reduceLeDiff, reduceCtorEq, Nat.reduceMod, Int.reduceEq, Int.reduceLT, Int.reduceLE, Int.reduceToNat, dite_true, h']
    exact RetOk.p rfl rfl
  have h' : (k : Int) < (l.length : Int) := by omega
  have h0 : (0 : Int) ≤ (k : Int) := by omega
  have e2 : IntKind.i64.wrap ((k : Int) + 1) = ((k + 1 : Nat) : Int) := wadd k h (Nat.le_trans hl1 hl2)
  obtain ⟨q, _, cs, eq, _, _, kl, kr⟩ := (hl'.mono (R' := RBind F1) hF1 (fun _ _ _ h => h.mono hF1)).elem (by decide) (i := k) (a := l[k]) (List.getElem?_eq_getElem h) (fun _ _ h => h.len)
  cases eq
  have hsm := sizeBs_mem2 l k h
  have hse := bsize_eq l[k]
  obtain ⟨bd, hbk⟩ : ∃ bd, bd = l[k] := ⟨_, rfl⟩
  rw [← hbk] at hsm hse kr
  obtain ⟨wv, cc, rfl, hwv, hcc⟩ := RBind_iff.1 kr
  have k0 := cell_at kl (o := 0) rfl
  simp only [push_cast, ↓reduceIte, Nat.reduceEqDiff, Nat.reduceAdd, Nat.reduceMul, Nat.reduceSub, Nat.reduceLT, Nat.reduceLeDiff, reduceCtorEq, Nat.reduceMod, Int.reduceEq, Int.reduceLT, Int.reduceLE, Int.reduceToNat, dite_true, h', h0, k0]
  refine CallV.pure (turned F1 bd.name (by omega)) ?_
  rintro _ F2 hF2 rfl
  have k0' := PH.le.cell hF2 k0
  by_cases g : bd.name = mainB
  · have g1 : turn bd.name = ⟨#[109, 97, 105, 110]⟩ := (turn_main_iff _).2 g
    have g2 : bd.name = ⟨#[109, 97, 105, 110]⟩ := g
    simp only [push_cast, ↓reduceIte, Nat.reduceEqDiff, Nat.reduceAdd, Nat.reduceMul, Nat.reduceSub, Nat.reduceLT, Nat.reduceLeDiff, reduceCtorEq, Nat.reduceMod, Int.reduceEq, Int.reduceLT, Int.reduceLE, Int.reduceToNat, dite_true, eq_true g1, h0, h', k0', eq_true g2, e2]
    exact hG (k + 1, F2) _ ⟨by omega, PH.le_trans hF1 hF2⟩ (by simp; omega) (by simp [subk, Eng.look]) (List.Sublist.refl _) rfl rfl
  · have g1 : ¬ turn bd.name = ⟨#[109, 97, 105, 110]⟩ := fun h => g ((turn_main_iff _).1 h)
    simp only [push_cast, ↓reduceIte, Nat.reduceEqDiff, Nat.reduceAdd, Nat.reduceMul, Nat.reduceSub, Nat.reduceLT, Nat.reduceLeDiff, reduceCtorEq, Nat.reduceMod, Int.reduceEq, Int.reduceLT, Int.reduceLE, Int.reduceToNat, dite_true, g1, e2]
    exact hG (k + 1, F2) _ ⟨by omega, PH.le_trans hF1 hF2⟩ (by simp; omega) (by simp [subk, Eng.look]) (List.Sublist.refl _) rfl rfl
end Go.Proofs.YtoepmdbicdoieaaDoor.M
