/- gen: what alternatives need. -/
import Derived.Test.YtoepmdbicdoieaaDoorW3
import Derived.Test.YtoepmdbicdoieaaDoorPA
import Derived.Test.YtoepmdbicdoieaaDoorN1
namespace Go.Proofs.YtoepmdbicdoieaaDoor.W
open Go Go.Eng Go.Proofs Go.Proofs.YtoepmdbicdoieaaDoor.T Go.Proofs.YtoepmdbicdoieaaDoor.K Go.Proofs.YtoepmdbicdoieaaDoor.U
open Go.Proofs.YtoepmdbicdoieaaDoor.V (within within_all within_len WithinOk)
set_option linter.unusedSimpArgs false
set_option linter.unusedVariables false
set_option maxRecDepth 100000
set_option maxHeartbeats 4000000
abbrev inB (l : List ByteArray) (s : ByteArray) : Bool := decide (0 ≤ findL l s)
theorem inB_snoc (l : List ByteArray) (x s : ByteArray) : inB (l ++ [x]) s = (decide (x = s) || inB l s) := by
  have := (findL_has (l ++ [x]) s)
  have h2 := (findL_has l s)
  simp only [List.mem_append, List.mem_singleton] at this
  by_cases e : x = s
  · have h3 : 0 ≤ findL (l ++ [x]) s := this.2 (.inr e.symm)
    subst e
    simp [inB, h3]
  · by_cases h : s ∈ l
    · simp [inB, this.2 (.inl h), h2.2 h]
    · have k1 : ¬ 0 ≤ findL (l ++ [x]) s := fun hh => by
        rcases this.1 hh with h' | h'
        · exact h h'
        · exact e h'.symm
      have k2 : ¬ 0 ≤ findL l s := fun hh => h (h2.1 hh)
      simp [inB, k1, k2, e]
theorem mput_names {es' : Array MapEntry} {kv : List (ByteArray × Value)} {own own' : ByteArray → Bool} {x : ByteArray} (hg : ∀ s, mget kv s = if own s = true then some P.one64 else none) (hm : MapAs Value.string es' (mput kv x P.one64)) (h : ∀ s, own' s = (decide (x = s) || own s)) : P.Names es' own' :=
  ⟨_, hm, fun s => by rw [mget_mput, hg, h]; by_cases e : x = s <;> simp [e]⟩
theorem keep1_stay {own keep : List ByteArray} {s : ByteArray} (h : inB own s = true ∨ inB keep s = true) : keep1 own keep s = keep := if_pos (by simpa [inB] using h)
theorem keep1_new {own keep : List ByteArray} {s : ByteArray} (h : inB own s = false) (h2 : inB keep s = false) : keep1 own keep s = keep ++ [s] := if_neg (by simp [inB] at h h2; omega)
theorem keepL_snoc (l : List ByteArray) (ls : List Alt) (a : Alt) : keepL l (ls ++ [a]) = keepA l (keepL l ls) a := by simp [keepL, List.foldl_append]
theorem keep1_len (own keep : List ByteArray) (s : ByteArray) : (keep1 own keep s).length ≤ keep.length + 1 := by unfold keep1; split <;> simp
theorem keepF_len (own names : List ByteArray) : ∀ keep : List ByteArray, (names.foldl (keep1 own) keep).length ≤ keep.length + names.length := by
  induction names with
  | nil => intro keep; simp
  | cons x names ih =>
    intro keep
    have h1 := ih (keep1 own keep x)
    have h2 := keep1_len own keep x
    simp only [List.foldl_cons, List.length_cons]
    omega
theorem keepA_len (l keep : List ByteArray) (a : Alt) : (keepA l keep a).length ≤ keep.length + a.size := by
  have h1 := keepF_len (ownA a.kind a.name a.vars) (here l (within a.body)) keep
  have h2 := here_len l (within a.body)
  have h3 := within_len a.body
  have h4 := V.asize_eq a
  unfold keepA
  omega
theorem keepL_len (l : List ByteArray) (ls : List Alt) : ∀ keep, (ls.foldl (keepA l) keep).length ≤ keep.length + sizeLs ls := by
  induction ls with
  | nil => intro keep; simp
  | cons a ls ih =>
    intro keep
    have h1 := ih (keepA l keep a)
    have h2 := keepA_len l keep a
    simp only [List.foldl_cons, sizeLs]
    omega
theorem within_ne_all (n : Nat) : ∀ e : Exp, e.size = n → ∀ s ∈ within e, ¬ s = ⟨#[]⟩ := by
  induction n using Nat.strongRecOn with
  | _ n ih =>
    intro e he s hs
    rw [V.within_eq] at hs
    have hs := N.mem_onceL hs
    have hse := V.size_eq e
    have hb : ∀ b ∈ e.binds, ∀ s ∈ V.withinB b, ¬ s = ⟨#[]⟩ := fun b hb s hs => by
      have h1 := V.sizeBs_mem hb
      have h2 := V.bsize_eq b
      have : s ∈ within b.body := by cases b; simp only [V.withinB] at hs; exact (N.mem_lessL.1 hs).1
      exact ih _ (by omega) b.body rfl s this
    have hl : ∀ a ∈ e.alts, ∀ s ∈ V.withinL a, ¬ s = ⟨#[]⟩ := fun b hb s hs => by
      have h1 := V.sizeLs_mem hb
      have h2 := V.asize_eq b
      have : s ∈ within b.body := by
        cases b
        simp only [V.withinL] at hs
        split at hs
        · exact (N.mem_lessL.1 hs).1
        · split at hs
          · exact (N.mem_lessL.1 hs).1
          · exact hs
      exact ih _ (by omega) b.body rfl s this
    have hk : ∀ s ∈ V.withinKid e.kids, ¬ s = ⟨#[]⟩ := fun s hs => by
      cases hc : e.kids with
      | nil => rw [hc] at hs; simp [V.withinKid] at hs
      | cons a l =>
        rw [hc] at hs
        have h1 : a.size ≤ sizeEs e.kids := V.sizeEs_mem (by rw [hc]; exact List.mem_cons_self)
        exact ih _ (by omega) a rfl s hs
    unfold V.inner at hs
    split at hs
    · rcases List.mem_append.1 hs with hs | hs
      · exact fun e' => (N.mem_lessL.1 hs).2 (by rw [e']; exact List.mem_singleton.2 rfl)
      · obtain ⟨x, _, rfl, h⟩ := N.mem_atomsL hs; exact h
    · split at hs
      · obtain ⟨x, _, rfl, h⟩ := N.mem_atomsL hs; exact h
      · split at hs
        · rcases List.mem_append.1 (N.mem_lessL.1 hs).1 with hs | hs
          · rw [V.withinBs_flat] at hs
            obtain ⟨b, h1, h2⟩ := List.mem_flatMap.1 hs
            exact hb b h1 s h2
          · exact hk s hs
        · split at hs
          · rcases List.mem_append.1 hs with hs | hs
            · exact hk s hs
            · rw [V.withinLs_flat] at hs
              obtain ⟨b, h1, h2⟩ := List.mem_flatMap.1 hs
              exact hl b h1 s h2
          · cases hs
theorem within_ne (e : Exp) : ∀ s ∈ within e, ¬ s = ⟨#[]⟩ := within_ne_all _ e rfl
theorem kept (F : PH) (lv v : Value) (ls : List Alt) (l : List ByteArray) (hl : SlE F 13 (RAlt F) lv ls) (hp : Plc F v l) (hb : sizeLs ls ≤ 100000000) : RowS Tryd.prog 116 [lv, v] F (keepL l ls) := by
  obtain ⟨mb, hv⟩ := hp.val
  subst hv
  have hl' := hl
  obtain ⟨pl, cl, rfl, hl1, hl2⟩ := hl.val
  refine Fn.intro (n := 68) (ts := [4]) Tryd.func116 rfl rfl rfl rfl (by simp) fun B hB => VC.emp ?_
  refine VC.go 100 ?_
  simp only [push_cast, ↓reduceIte, Nat.reduceEqDiff, Nat.reduceAdd, Nat.reduceMul, Nat.reduceSub, Nat.reduceLT, Nat.reduceLeDiff, reduceCtorEq, Nat.reduceMod, Int.reduceEq, Int.reduceLT, Int.reduceLE, Int.reduceToNat, dite_true]
  refine Eff.makeMap rfl fun met => ?_
  simp only [push_cast, ↓reduceIte, Nat.reduceEqDiff, Nat.reduceAdd, Nat.reduceMul, Nat.reduceSub, Nat.reduceLT, Nat.reduceLeDiff, reduceCtorEq, Nat.reduceMod, Int.reduceEq, Int.reduceLT, Int.reduceLE, Int.reduceToNat, dite_true]
  refine VC.loopW (ι := Nat × Value × PH × PH × Array MapEntry × Nat) (fun i => [(17, .v (i64v i.1)), (16, .v (i64v ls.length)), (15, .v (.slice pl ls.length cl)), (6, .v (.map (some met))), (5, .v i.2.1), (1, .v (.map (some mb)))]) (fun _ => []) (fun i => i.2.2.1) (fun i => [i.2.2.2.1, PH.one met (.map i.2.2.2.2.1 i.2.2.2.2.2)])
    (fun i => i.1 ≤ ls.length ∧ F.le i.2.2.1 ∧ Row i.2.2.2.1 9 1 i.2.1 ((keepL l (ls.take i.1)).map .string) ∧ P.Names i.2.2.2.2.1 (inB (keepL l (ls.take i.1)))) (fun i => ls.length - i.1) (0, .slice none 0 0, F, PH.emp, #[], 0) ⟨Nat.zero_le _, PH.le_refl _, Row.nil _ _, [], rfl, fun s => by simp [mget, inB, keepL, findL]⟩ (by simp [subk, Eng.look]) (List.nil_sublist _) rfl (subR_perm (List.Perm.swap _ _ _)) ?_
  rintro ⟨k, u, F1, r, es, c⟩ ⟨hk, hF1, hrow, hmet⟩ G hG
  dsimp only at hk hF1 hrow hmet hG ⊢
  by_cases h : k < ls.length
  case neg =>
    have h' : ¬ (k : Int) < (ls.length : Int) := by omega
    refine VC.go 100 ?_
    simp only [push_cast, ↓reduceIte, Nat.reduceEqDiff, Nat.reduceAdd, Nat.reduceMul, Nat.reduceSub, Nat.reduceLT, Nat.reduceLeDiff, reduceCtorEq, Nat.reduceMod, Int.reduceEq, Int.reduceLT, Int.reduceLE, Int.reduceToNat, dite_true, h']
    rw [List.take_of_length_le (by omega)] at hrow
    exact RetOk.r (vs := [_]) rfl (RetR.sub (R' := [r]) (by simp)) ⟨r, rfl, hrow⟩
  have h' : (k : Int) < (ls.length : Int) := by omega
  have h0 : (0 : Int) ≤ (k : Int) := by omega
  obtain ⟨q, _, cs, eq, _, _, kl, kr⟩ := (hl'.mono (R' := RAlt F1) hF1 (fun _ _ _ h => h.mono hF1)).elem (by decide) (i := k) (a := ls[k]) (List.getElem?_eq_getElem h) (fun _ _ h => h.len)
  cases eq
  obtain ⟨va, cc, rfl, hva, hvc⟩ := RAlt_iff.1 kr
  obtain ⟨wa, wb, we, wl, rfl, wx⟩ := RExp_iff.1 hvc
  obtain ⟨pv, cv, rfl, hv1, hv2, hv3⟩ := hva
  have wx' := wx
  obtain ⟨pa, ca, pb, cb, pe, ce, pl', cl', rfl, rfl, rfl, rfl⟩ := wx.slices
  refine VC.go 11 ?_
  simp only [push_cast, ↓reduceIte, Nat.reduceEqDiff, Nat.reduceAdd, Nat.reduceMul, Nat.reduceSub, Nat.reduceLT, Nat.reduceLeDiff, reduceCtorEq, Nat.reduceMod, Int.reduceEq, Int.reduceLT, Int.reduceLE, Int.reduceToNat, dite_true, h', h0, kl]
  intro b8
  refine Eff.makeMap rfl fun own => ?_
  simp only [push_cast, ↓reduceIte, Nat.reduceEqDiff, Nat.reduceAdd, Nat.reduceMul, Nat.reduceSub, Nat.reduceLT, Nat.reduceLeDiff, reduceCtorEq, Nat.reduceMod, Int.reduceEq, Int.reduceLT, Int.reduceLE, Int.reduceToNat, dite_true]
  refine VC.seq (VC.cutW (ι := Array MapEntry × Nat) (fun i => [(9, .v (.map (some own))), (8, .o 0 b8 0), (17, .v (i64v k)), (16, .v (i64v ls.length)), (15, .v (.slice (some q) ls.length cl)), (6, .v (.map (some met))), (5, .v u), (1, .v (.map (some mb)))]) (fun _ => [⟨0, b8, 148, (i64v (ls[k]).kind :: i64v (ls[k]).at_ :: .string (ls[k]).name :: i64v (ls[k]).n :: .slice pv (ls[k]).vars.length cv :: expCells (ls[k]).body (.slice pa (ls[k]).body.atoms.length ca) (.slice pb (ls[k]).body.binds.length cb) (.slice pe (ls[k]).body.kids.length ce) (.slice pl' (ls[k]).body.alts.length cl'))⟩]) (fun _ => F1) (fun i => [PH.one own (.map i.1 i.2), r, PH.one met (.map es c)])
    (fun i => P.Names i.1 (inB (ownA (ls[k]).kind (ls[k]).name (ls[k]).vars))) (fun G1 hG1 => ?_) ?_)
  · refine VC.go 100 ?_
    by_cases h1 : (ls[k]).kind = 1
    · simp only [push_cast, ↓reduceIte, Nat.reduceEqDiff, Nat.reduceAdd, Nat.reduceMul, Nat.reduceSub, Nat.reduceLT, Nat.reduceLeDiff, reduceCtorEq, Nat.reduceMod, Int.reduceEq, Int.reduceLT, Int.reduceLE, Int.reduceToNat, dite_true, h1]
      refine VC.loopW (ι := Nat × Array MapEntry × Nat) (fun i => [(29, .v (i64v i.1)), (28, .v (i64v (ls[k]).vars.length)), (27, .v (.slice pv (ls[k]).vars.length cv)), (9, .v (.map (some own))), (8, .o 0 b8 0), (17, .v (i64v k)), (16, .v (i64v ls.length)), (15, .v (.slice (some q) ls.length cl)), (6, .v (.map (some met))), (5, .v u), (1, .v (.map (some mb)))]) (fun _ => [⟨0, b8, 148, (i64v (ls[k]).kind :: i64v (ls[k]).at_ :: .string (ls[k]).name :: i64v (ls[k]).n :: .slice pv (ls[k]).vars.length cv :: expCells (ls[k]).body (.slice pa (ls[k]).body.atoms.length ca) (.slice pb (ls[k]).body.binds.length cb) (.slice pe (ls[k]).body.kids.length ce) (.slice pl' (ls[k]).body.alts.length cl'))⟩]) (fun _ => F1) (fun i => [PH.one own (.map i.2.1 i.2.2), r, PH.one met (.map es c)])
        (fun i => i.1 ≤ (ls[k]).vars.length ∧ P.Names i.2.1 (inB ((ls[k]).vars.take i.1))) (fun i => (ls[k]).vars.length - i.1) (0, #[], 0) ⟨Nat.zero_le _, [], rfl, fun s => by simp [mget, inB, findL]⟩ (by simp [subk, Eng.look, h1]) (by simp [h1]) rfl (subR_refl _) ?_
      rintro ⟨j, es2, c2⟩ ⟨hj, hnm⟩ G2 hG2
      dsimp only at hj hnm hG2 ⊢
      refine VC.go 100 ?_
      by_cases g : j < (ls[k]).vars.length
      case neg =>
        have g' : ¬ (j : Int) < ((ls[k]).vars.length : Int) := by omega
        simp only [push_cast, ↓reduceIte, Nat.reduceEqDiff, Nat.reduceAdd, Nat.reduceMul, Nat.reduceSub, Nat.reduceLT, Nat.reduceLeDiff, reduceCtorEq, Nat.reduceMod, Int.reduceEq, Int.reduceLT, Int.reduceLE, Int.reduceToNat, dite_true, g']
        rw [List.take_of_length_le (by omega)] at hnm
        exact hG1 (es2, c2) _ (by simpa [ownA, h1] using hnm) (by simp [subk, Eng.look]) (by simp) rfl (subR_refl _)
      have g' : (j : Int) < ((ls[k]).vars.length : Int) := by omega
      have g0 : (0 : Int) ≤ (j : Int) := by omega
      obtain ⟨a, rfl, ha⟩ := hv3.elem1 (i := j) (v := .string (ls[k]).vars[j]) (by simp [g])
      have e2 : IntKind.i64.wrap ((j : Int) + 1) = ((j + 1 : Nat) : Int) := wadd j g (Nat.le_trans hv1 hv2)
      simp only [push_cast, ↓reduceIte, Nat.reduceEqDiff, Nat.reduceAdd, Nat.reduceMul, Nat.reduceSub, Nat.reduceLT, Nat.reduceLeDiff, reduceCtorEq, Nat.reduceMod, Int.reduceEq, Int.reduceLT, Int.reduceLE, Int.reduceToNat, dite_true, g', g0, ha]
      obtain ⟨kv, hes, hg⟩ := hnm
      refine Eff.update keyStr rfl rfl ty67 rfl Tryd.underlying9 rfl rfl rfl (List.Perm.refl _) hes fun es3 c3 hes3 => ?_
      simp only [push_cast, ↓reduceIte, Nat.reduceEqDiff, Nat.reduceAdd, Nat.reduceMul, Nat.reduceSub, Nat.reduceLT, Nat.reduceLeDiff, reduceCtorEq, Nat.reduceMod, Int.reduceEq, Int.reduceLT, Int.reduceLE, Int.reduceToNat, dite_true, e2]
      exact hG2 (j + 1, es3, c3) _ ⟨by omega, mput_names hg hes3 fun s => by rw [List.take_succ_eq_append_getElem g, inB_snoc]⟩ (by simp; omega) (by simp [subk, Eng.look]) (by simp) rfl (subR_refl _)
    by_cases h3 : (ls[k]).kind = 3
    · simp only [push_cast, ↓reduceIte, Nat.reduceEqDiff, Nat.reduceAdd, Nat.reduceMul, Nat.reduceSub, Nat.reduceLT, Nat.reduceLeDiff, reduceCtorEq, Nat.reduceMod, Int.reduceEq, Int.reduceLT, Int.reduceLE, Int.reduceToNat, dite_true, h1, h3]
      refine Eff.update (l := []) (es := #[]) (c := 0) keyStr rfl rfl ty67 rfl Tryd.underlying9 rfl rfl rfl (List.Perm.refl _) rfl fun es3 c3 hes3 => ?_
      simp only [push_cast, ↓reduceIte, Nat.reduceEqDiff, Nat.reduceAdd, Nat.reduceMul, Nat.reduceSub, Nat.reduceLT, Nat.reduceLeDiff, reduceCtorEq, Nat.reduceMod, Int.reduceEq, Int.reduceLT, Int.reduceLE, Int.reduceToNat, dite_true]
      exact hG1 (es3, c3) _ (mput_names (own := fun _ => false) (fun s => by simp [mget]) hes3 fun s => by simp [ownA, h3, inB, findL]; by_cases e : (ls[k]).name = s <;> simp [e]) (by simp [subk, Eng.look]) (by simp [h3]) rfl (subR_refl _)
    · simp only [push_cast, ↓reduceIte, Nat.reduceEqDiff, Nat.reduceAdd, Nat.reduceMul, Nat.reduceSub, Nat.reduceLT, Nat.reduceLeDiff, reduceCtorEq, Nat.reduceMod, Int.reduceEq, Int.reduceLT, Int.reduceLE, Int.reduceToNat, dite_true, h1, h3]
      exact hG1 (#[], 0) _ ⟨[], rfl, fun s => by simp [mget, ownA, h1, h3, inB, findL]⟩ (by simp [subk, Eng.look]) (by simp) rfl (subR_refl _)
  rintro ⟨es1, c1⟩ hown
  dsimp only at hown ⊢
  have hsz : (ls[k]).size ≤ sizeLs ls := V.sizeLs_mem (List.getElem_mem h)
  have hbs : (ls[k]).body.size ≤ (ls[k]).size := by rw [V.asize_eq]; omega
  have hwl := within_len (ls[k]).body
  have hkl := keepL_len l (ls.take k) []
  have hkl2 := V.sizeLs_take ls k
  refine VC.go 100 ?_
  simp only [push_cast, ↓reduceIte, Nat.reduceEqDiff, Nat.reduceAdd, Nat.reduceMul, Nat.reduceSub, Nat.reduceLT, Nat.reduceLeDiff, reduceCtorEq, Nat.reduceMod, Int.reduceEq, Int.reduceLT, Int.reduceLE, Int.reduceToNat, dite_true]
  refine CallV.sl (within_all _ (ls[k]).body rfl (by omega) F1 _ _ _ _ wx') fun w F2 nw hF2 hlw hsw => ?_
  have hw := sl_strs hlw hsw
  simp only [push_cast, ↓reduceIte, Nat.reduceEqDiff, Nat.reduceAdd, Nat.reduceMul, Nat.reduceSub, Nat.reduceLT, Nat.reduceLeDiff, reduceCtorEq, Nat.reduceMod, Int.reduceEq, Int.reduceLT, Int.reduceLE, Int.reduceToNat, dite_true]
  refine CallV.sl (locals F2 w _ _ l hw (hp.mono (PH.le_trans hF1 hF2)) (within_ne _) (by omega)) fun w2 F3 nw2 hF3 hlw2 hsw2 => ?_
  have hw2 := sl_strs hlw2 hsw2
  obtain ⟨pn, cn, rfl, hn1, hn2, hn3⟩ := hw2
  simp only [push_cast, ↓reduceIte, Nat.reduceEqDiff, Nat.reduceAdd, Nat.reduceMul, Nat.reduceSub, Nat.reduceLT, Nat.reduceLeDiff, reduceCtorEq, Nat.reduceMod, Int.reduceEq, Int.reduceLT, Int.reduceLE, Int.reduceToNat, dite_true]
  have hhl := here_len l (within (ls[k]).body)
  refine VC.loopW (ι := Nat × Value × PH × PH × Array MapEntry × Nat) (fun i => [(47, .v (i64v i.1)), (46, .v (i64v (here l (within (ls[k]).body)).length)), (45, .v (.slice pn (here l (within (ls[k]).body)).length cn)), (9, .v (.map (some own))), (17, .v (i64v k)), (16, .v (i64v ls.length)), (15, .v (.slice (some q) ls.length cl)), (6, .v (.map (some met))), (5, .v i.2.1), (1, .v (.map (some mb)))]) (fun _ => []) (fun i => i.2.2.1) (fun i => [PH.one own (.map es1 c1), i.2.2.2.1, PH.one met (.map i.2.2.2.2.1 i.2.2.2.2.2)])
    (fun i => i.1 ≤ (here l (within (ls[k]).body)).length ∧ F3.le i.2.2.1 ∧ Row i.2.2.2.1 9 1 i.2.1 ((((here l (within (ls[k]).body)).take i.1).foldl (keep1 (ownA (ls[k]).kind (ls[k]).name (ls[k]).vars)) (keepL l (ls.take k))).map .string) ∧ P.Names i.2.2.2.2.1 (inB (((here l (within (ls[k]).body)).take i.1).foldl (keep1 (ownA (ls[k]).kind (ls[k]).name (ls[k]).vars)) (keepL l (ls.take k)))))
    (fun i => (here l (within (ls[k]).body)).length - i.1) (0, u, F3, r, es, c) ⟨Nat.zero_le _, PH.le_refl _, hrow, hmet⟩ (by simp [subk, Eng.look]) (List.nil_sublist _) rfl (subR_refl _) ?_
  rintro ⟨j, u2, F4, r2, es4, c4⟩ ⟨hj, hF4, hrow2, hmet2⟩ G3 hG3
  dsimp only at hj hF4 hrow2 hmet2 hG3 ⊢
  refine VC.go 100 ?_
  by_cases g : j < (here l (within (ls[k]).body)).length
  case neg =>
    have g' : ¬ (j : Int) < ((here l (within (ls[k]).body)).length : Int) := by omega
    have e2 : IntKind.i64.wrap ((k : Int) + 1) = ((k + 1 : Nat) : Int) := wadd k h (Nat.le_trans hl1 hl2)
    have htk : (here l (within (ls[k]).body)).take j = here l (within (ls[k]).body) := List.take_of_length_le (by omega)
    rw [htk] at hrow2 hmet2
    simp only [push_cast, ↓reduceIte, Nat.reduceEqDiff, Nat.reduceAdd, Nat.reduceMul, Nat.reduceSub, Nat.reduceLT, Nat.reduceLeDiff, reduceCtorEq, Nat.reduceMod, Int.reduceEq, Int.reduceLT, Int.reduceLE, Int.reduceToNat, dite_true, g', e2]
    refine hG (k + 1, u2, F4, r2, es4, c4) _ ⟨by omega, PH.le_trans hF1 (PH.le_trans hF2 (PH.le_trans hF3 hF4)), ?_, ?_⟩ (by simp; omega) (by simp [subk, Eng.look]) (List.nil_sublist _) rfl (subR_cons (subR_refl _))
    · dsimp only; rw [List.take_succ_eq_append_getElem h, keepL_snoc]; exact hrow2
    · dsimp only; rw [List.take_succ_eq_append_getElem h, keepL_snoc]; exact hmet2
  have g' : (j : Int) < ((here l (within (ls[k]).body)).length : Int) := by omega
  have g0 : (0 : Int) ≤ (j : Int) := by omega
  obtain ⟨a, rfl, ha⟩ := (hn3.mono hF4).elem1 (i := j) (v := .string (here l (within (ls[k]).body))[j]) (by simp [g])
  have e2 : IntKind.i64.wrap ((j : Int) + 1) = ((j + 1 : Nat) : Int) := wadd j g (Nat.le_trans hn1 hn2)
  simp only [push_cast, ↓reduceIte, Nat.reduceEqDiff, Nat.reduceAdd, Nat.reduceMul, Nat.reduceSub, Nat.reduceLT, Nat.reduceLeDiff, reduceCtorEq, Nat.reduceMod, Int.reduceEq, Int.reduceLT, Int.reduceLE, Int.reduceToNat, dite_true, g', g0, ha]
  obtain ⟨kv1, hes1, hg1⟩ := hown
  obtain ⟨kv4, hes4, hg4⟩ := hmet2
  refine Eff.lookup keyStr rfl ty67 rfl Tryd.underlying9 ty3 rfl rfl (.inr ⟨_, List.mem_cons_self, PH.one_self _ _⟩) hes1 ?_
  simp only [push_cast, ↓reduceIte, Nat.reduceEqDiff, Nat.reduceAdd, Nat.reduceMul, Nat.reduceSub, Nat.reduceLT, Nat.reduceLeDiff, reduceCtorEq, Nat.reduceMod, Int.reduceEq, Int.reduceLT, Int.reduceLE, Int.reduceToNat, dite_true]
  refine Eff.lookup keyStr rfl ty67 rfl Tryd.underlying9 ty3 rfl rfl (.inr ⟨_, List.mem_cons_of_mem _ (List.mem_cons_of_mem _ List.mem_cons_self), PH.one_self _ _⟩) hes4 ?_
  rw [hg1, hg4]
  have hst : ∀ own, ((here l (within (ls[k]).body)).take (j + 1)).foldl (keep1 own) (keepL l (ls.take k)) = keep1 own (((here l (within (ls[k]).body)).take j).foldl (keep1 own) (keepL l (ls.take k))) (here l (within (ls[k]).body))[j] := fun own => by rw [List.take_succ_eq_append_getElem g, List.foldl_append]; rfl
  have hstay : inB (ownA (ls[k]).kind (ls[k]).name (ls[k]).vars) (here l (within (ls[k]).body))[j] = true ∨ inB (((here l (within (ls[k]).body)).take j).foldl (keep1 (ownA (ls[k]).kind (ls[k]).name (ls[k]).vars)) (keepL l (ls.take k))) (here l (within (ls[k]).body))[j] = true → ((here l (within (ls[k]).body)).take (j + 1)).foldl (keep1 (ownA (ls[k]).kind (ls[k]).name (ls[k]).vars)) (keepL l (ls.take k)) = ((here l (within (ls[k]).body)).take j).foldl (keep1 (ownA (ls[k]).kind (ls[k]).name (ls[k]).vars)) (keepL l (ls.take k)) := fun hh => by
    rw [hst]; exact keep1_stay hh
  have w11 : IntKind.i64.wrap (1 + 1) = 2 := w64 _ (by omega)
  have w10 : IntKind.i64.wrap (1 + 0) = 1 := w64 _ (by omega)
  have w01 : IntKind.i64.wrap (0 + 1) = 1 := w64 _ (by omega)
  have w00 : IntKind.i64.wrap (0 + 0) = 0 := w64 _ (by omega)
  cases q1 : inB (ownA (ls[k]).kind (ls[k]).name (ls[k]).vars) (here l (within (ls[k]).body))[j] with
  | true =>
    have hs' := hstay (.inl q1)
    cases q2 : inB (((here l (within (ls[k]).body)).take j).foldl (keep1 (ownA (ls[k]).kind (ls[k]).name (ls[k]).vars)) (keepL l (ls.take k))) (here l (within (ls[k]).body))[j] <;>
    · simp only [push_cast, ↓reduceIte, Nat.reduceEqDiff, Nat.reduceAdd, Nat.reduceMul, Nat.reduceSub, Nat.reduceLT, Nat.reduceLeDiff, reduceCtorEq, Nat.reduceMod, Int.reduceEq, Int.reduceLT, Int.reduceLE, Int.reduceToNat, dite_true, Option.getD_some, Option.getD_none, Bool.false_eq_true, w11, w10, e2]
      exact hG3 (j + 1, u2, F4, r2, es4, c4) _ ⟨by omega, hF4, by rw [hs']; exact hrow2, kv4, hes4, by rw [hs']; exact hg4⟩ (by simp; omega) (by simp [subk, Eng.look]) (List.nil_sublist _) rfl (subR_refl _)
  | false =>
    cases q2 : inB (((here l (within (ls[k]).body)).take j).foldl (keep1 (ownA (ls[k]).kind (ls[k]).name (ls[k]).vars)) (keepL l (ls.take k))) (here l (within (ls[k]).body))[j] with
    | true =>
      have hs' := hstay (.inr q2)
      simp only [push_cast, ↓reduceIte, Nat.reduceEqDiff, Nat.reduceAdd, Nat.reduceMul, Nat.reduceSub, Nat.reduceLT, Nat.reduceLeDiff, reduceCtorEq, Nat.reduceMod, Int.reduceEq, Int.reduceLT, Int.reduceLE, Int.reduceToNat, dite_true, Option.getD_some, Option.getD_none, Bool.false_eq_true, w01, e2]
      exact hG3 (j + 1, u2, F4, r2, es4, c4) _ ⟨by omega, hF4, by rw [hs']; exact hrow2, kv4, hes4, by rw [hs']; exact hg4⟩ (by simp; omega) (by simp [subk, Eng.look]) (List.nil_sublist _) rfl (subR_refl _)
    | false =>
      have hs' : ((here l (within (ls[k]).body)).take (j + 1)).foldl (keep1 (ownA (ls[k]).kind (ls[k]).name (ls[k]).vars)) (keepL l (ls.take k)) = ((here l (within (ls[k]).body)).take j).foldl (keep1 (ownA (ls[k]).kind (ls[k]).name (ls[k]).vars)) (keepL l (ls.take k)) ++ [(here l (within (ls[k]).body))[j]] := by
        rw [hst]; exact keep1_new q1 q2
      simp only [push_cast, ↓reduceIte, Nat.reduceEqDiff, Nat.reduceAdd, Nat.reduceMul, Nat.reduceSub, Nat.reduceLT, Nat.reduceLeDiff, reduceCtorEq, Nat.reduceMod, Int.reduceEq, Int.reduceLT, Int.reduceLE, Int.reduceToNat, dite_true, Option.getD_some, Option.getD_none, Bool.false_eq_true, w00]
      refine Eff.update keyStr rfl rfl ty67 rfl Tryd.underlying9 rfl rfl rfl ((List.perm_middle (l₁ := [PH.one own (.map es1 c1), r2])).trans (.refl _)) hes4 fun es5 c5 hes5 => ?_
      simp only [push_cast, ↓reduceIte, Nat.reduceEqDiff, Nat.reduceAdd, Nat.reduceMul, Nat.reduceSub, Nat.reduceLT, Nat.reduceLeDiff, reduceCtorEq, Nat.reduceMod, Int.reduceEq, Int.reduceLT, Int.reduceLE, Int.reduceToNat, dite_true]
      intro b2 F5 hF5 hb5
      have hfl := keepF_len (ownA (ls[k]).kind (ls[k]).name (ls[k]).vars) ((here l (within (ls[k]).body)).take j) (keepL l (ls.take k))
      have hfl2 : ((here l (within (ls[k]).body)).take j).length ≤ (here l (within (ls[k]).body)).length := List.length_take_le' _ _
      have hkl3 : (keepL l (ls.take k)).length ≤ sizeLs (ls.take k) := by simpa [keepL] using hkl
      refine Eff.append (ys := [.string (here l (within (ls[k]).body))[j]]) (Rf := [PH.one met (.map es5 c5), PH.one own (.map es1 c1)]) rfl rfl rfl ty44 rfl ty9 rfl (by decide) rfl rfl ((List.perm_middle (l₁ := [PH.one met (.map es5 c5), PH.one own (.map es1 c1)]) (l₂ := []))) hrow2 (Src.blk hb5 rfl) (by simp [Value.oneCell']) (by rw [List.length_map]; simp only [List.length_cons, List.length_nil]; omega) (by decide) ?_
      intro v' r' hrow'
      simp only [push_cast, ↓reduceIte, Nat.reduceEqDiff, Nat.reduceAdd, Nat.reduceMul, Nat.reduceSub, Nat.reduceLT, Nat.reduceLeDiff, reduceCtorEq, Nat.reduceMod, Int.reduceEq, Int.reduceLT, Int.reduceLE, Int.reduceToNat, dite_true, e2]
      refine hG3 (j + 1, v', F5, r', es5, c5) _ ⟨by omega, PH.le_trans hF4 hF5, ?_, mput_names hg4 hes5 fun s => by rw [hs', inB_snoc]⟩ (by simp; omega) (by simp [subk, Eng.look]) (List.nil_sublist _) rfl (subR_perm ?_)
      · dsimp only; rw [hs', List.map_append]; exact hrow'
      · dsimp only
        exact (List.Perm.cons _ (List.Perm.swap _ _ _)).trans (List.Perm.swap _ _ _)
end Go.Proofs.YtoepmdbicdoieaaDoor.W
