/- gen: a program's code. -/
import Derived.Test.YtoepmdbicdoieaaDoorW11
import Derived.Test.YtoepmdbicdoieaaDoorPB
import Derived.Test.YtoepmdbicdoieaaDoorU3
namespace Go.Proofs.YtoepmdbicdoieaaDoor.W
open Go Go.Eng Go.Proofs Go.Proofs.YtoepmdbicdoieaaDoor.T Go.Proofs.YtoepmdbicdoieaaDoor.K Go.Proofs.YtoepmdbicdoieaaDoor.U
set_option linter.unusedSimpArgs false
set_option linter.unusedVariables false
set_option maxRecDepth 100000
set_option maxHeartbeats 4000000
section
variable {S : St} {κ : St → Prop} {d : Option Tmp} {sb i : Nat} {vc vg mc mt vi vn vq : Value} {ri rn rq : PH} {s : Sc} {Re : List PH}
theorem callInfo0 {f : Frm} {need : List ByteArray} {fc : List Value} {vd : Value} {big : Bool} (hbg : big = s.big) (hM : ownF S.M 0 = some ⟨0, sb, 70, schC vc vg vi vn mc mt vq big⟩) (hp : S.R.Perm ([ri, rn, rq] ++ Re)) (k1 : vc.oneCell' = true) (k2 : vg.oneCell' = true) (k4 : mc.oneCell' = true) (k5 : mt.oneCell' = true) (hS : Sch S.F sb i s vi vn vq ri rn rq) (hf : RFrm S.F f fc) (hd : Strs S.F vd need)
    (hb : s.infos.length ≤ 100000000)
    (next : ∀ F' vi' vq' ri' rq', S.F.le F' → Sch F' sb i (infoS s f need) vi' vn vq' ri' rn rq' → κ ⟨setk S.L d (.v (i64v s.infos.length)), updM S.M 0 (schC vc vg vi' vn mc mt vq' (infoS s f need).big), F', [ri', rn, rq'] ++ Re, S.nx⟩) : CallV Tryd.prog false 19 [ptr sb, .agg fc.toArray, vd] d κ S := by
  subst hbg
  have hwl := waits_len s.forms s.needs 0 (by rw [hS.e2, hS.e1])
  refine CallV.ownP (i := 0) (R1 := [ri, rq]) (Rf := [rn] ++ Re) (Q' := fun v F' cs' R2 => ∃ vi' vq' ri' rq', v = i64v s.infos.length ∧ cs' = schC vc vg vi' vn mc mt vq' (infoS s f need).big ∧ R2 = [ri', rn, rq'] ++ Re ∧ RowE ri' 41 4 RInf vi' (s.infos ++ [⟨if f.1.length = 0 then 6 else 3, f.1.length, need.length, 0⟩]) ∧ QRowE rq' 1 1 (RQ F' sb) vq' ((waits 0 s.forms s.needs).drop i ++ [(s.infos.length, f, need)])) hM (hp.trans (.cons _ (List.Perm.swap _ _ _))) (info S.F sb vc vg vi vn mc mt vq s.big ri rq s.infos _ f need fc vd k1 k2 hS.vn1 k4 k5 hf hd hS.infos hS.queue hb (by rw [List.length_drop, hwl, hS.e1]; omega)) ?_ ?_
  · rintro v F' R' _ ⟨rfl, vi', vq', ri', rq', rfl, h1, h2⟩
    exact ⟨_, _, _, rfl, .cons _ (List.Perm.swap _ _ _), vi', vq', ri', rq', rfl, rfl, rfl, h1, h2⟩
  · rintro v F' cs' R2 hF ⟨vi', vq', ri', rq', rfl, rfl, rfl, h1, h2⟩
    have hS' := hS.mono hF
    refine next F' vi' vq' ri' rq' hF ⟨h1, hS'.ins, ?_, by simp [infoS, hS.e1], by simp [infoS, hS.e2], by simp [infoS]; have := hS.le; omega⟩
    have e : waits 0 (infoS s f need).forms (infoS s f need).needs = waits 0 s.forms s.needs ++ [(s.infos.length, f, need)] := by
      show waits 0 (s.forms ++ [f]) (s.needs ++ [need]) = _
      rw [waits_snoc f need s.forms s.needs 0 (by rw [hS.e2, hS.e1]), Nat.zero_add, hS.e1]
    rw [e, List.drop_append_of_le_length (by rw [hwl, hS.e1]; exact hS.le)]
    exact h2
end
theorem begins_snoc (l : List Bind) (b : Bind) : begins (l ++ [b]) = infoS (begins l) (b.args, b.body) [] := by simp [begins, List.foldl_append]
theorem beginsF (l : List Bind) : ∀ s : Sc, (l.foldl (fun s b => infoS s (b.args, b.body) []) s).big = s.big ∧ (l.foldl (fun s b => infoS s (b.args, b.body) []) s).infos.length = s.infos.length + l.length := by
  induction l with
  | nil => intro s; exact ⟨rfl, rfl⟩
  | cons b l ih => intro s; obtain ⟨h1, h2⟩ := ih (infoS s (b.args, b.body) []); simp only [List.foldl_cons, h1, h2]; simp [infoS]; omega
theorem begins_big (l : List Bind) : (begins l).big = false := (beginsF l _).1
theorem begins_infos (l : List Bind) : (begins l).infos.length = l.length := by have := (beginsF l ⟨[], [], [], [], false⟩).2; simpa [begins] using this
theorem begins_forms (l : List Bind) : (begins l).forms = l.map (fun b => (b.args, b.body)) ∧ (begins l).needs = l.map (fun _ => []) ∧ (begins l).ins = [] := by
  have key : ∀ (l : List Bind) (s : Sc), (l.foldl (fun s b => infoS s (b.args, b.body) []) s).forms = s.forms ++ l.map (fun b => (b.args, b.body)) ∧ (l.foldl (fun s b => infoS s (b.args, b.body) []) s).needs = s.needs ++ l.map (fun _ => []) ∧ (l.foldl (fun s b => infoS s (b.args, b.body) []) s).ins = s.ins := by
    intro l
    induction l with
    | nil => intro s; simp
    | cons b l ih => intro s; obtain ⟨h1, h2, h3⟩ := ih (infoS s (b.args, b.body) []); simp only [List.foldl_cons, h1, h2, h3]; simp [infoS]
  have := key l ⟨[], [], [], [], false⟩
  simpa [begins] using this
theorem waits_forms : ∀ l : List Bind, waitsSize (l.map (fun b => ((b.args, b.body) : Frm))) + l.length ≤ sizeBs l
  | [] => by simp [waitsSize, sizeBs]
  | b :: l => by
    have := waits_forms l
    have := V.bsize_eq b
    simp only [waitsSize, List.map_cons, List.sum_cons, List.length_cons, sizeBs] at *
    omega
theorem waits_get : ∀ (fs : List Frm) (ds : List (List ByteArray)) (n i : Nat) (f : Frm) (d : List ByteArray), fs[i]? = some f → ds[i]? = some d → (waits n fs ds)[i]? = some (n + i, f, d)
  | [], _, _, _, _, _, h, _ => by simp at h
  | _ :: _, [], _, _, _, _, _, h => by simp at h
  | x :: fs, y :: ds, n, 0, f, d, h1, h2 => by simp at h1 h2; subst h1; subst h2; rfl
  | x :: fs, y :: ds, n, i + 1, f, d, h1, h2 => by
    simp only [List.getElem?_cons_succ] at h1 h2
    simp only [waits, List.getElem?_cons_succ]
    rw [waits_get fs ds (n + 1) i f d h1 h2, show n + 1 + i = n + (i + 1) by omega]
theorem globs_snoc (l : List Bind) (b : Bind) : ∀ i, globs (l ++ [b]) i = globs l i ++ [(b.name, ((i + l.length : Nat) : Int))] := by
  induction l with
  | nil => intro i; simp [globs]
  | cons x l ih => intro i; simp only [List.cons_append, globs, ih, List.length_cons]; rw [show i + 1 + l.length = i + (l.length + 1) by omega]
theorem globs_len (l : List Bind) : ∀ i, (globs l i).length = l.length := by
  induction l with
  | nil => intro i; rfl
  | cons x l ih => intro i; simp [globs, ih]
def RNum (x : ByteArray × Int) (cs : List Value) : Prop := cs = [.string x.1, i64v x.2]
theorem fo_conD : ∀ (ds : List Dat) (s : ByteArray), (ds.map Dat.name).Nodup → (fo (ds.map Dat.name) s).getD 0 = conD ds s
  | [], s, _ => by simp [fo, findL, conD]
  | d :: l, s, h => by
    rw [List.map_cons, List.nodup_cons] at h
    have ih := fo_conD l s h.2
    have hh := findL_has (l.map Dat.name) s
    unfold fo at ih ⊢
    simp only [List.map_cons, findL, conD]
    by_cases h0 : 0 ≤ findL (l.map Dat.name) s
    · have hm := hh.1 h0
      have hne : ¬ d.name = s := fun e => h.1 (e ▸ hm)
      have hany : l.any (fun x => decide (x.name = s)) = true := by
        obtain ⟨x, hx, e⟩ := List.mem_map.1 hm
        exact List.any_eq_true.2 ⟨x, hx, by simpa using e⟩
      rw [if_pos h0] at ih
      simp only [Option.getD_some] at ih
      rw [if_pos h0, if_pos (by omega), if_neg hne, if_pos hany, ← ih]
      rfl
    · rw [if_neg h0]
      by_cases e : d.name = s
      · simp [e]
      · have hany : ¬ l.any (fun x => decide (x.name = s)) = true := by
          intro ha
          obtain ⟨x, hx, e⟩ := List.any_eq_true.1 ha
          exact h0 (hh.2 (List.mem_map.2 ⟨x, hx, by simpa using e⟩))
        simp [e, hany]
theorem RNum.len {x : ByteArray × Int} {cs : List Value} (h : RNum x cs) : cs.length = 2 := by unfold RNum at h; subst h; rfl
/-- A code in memory. -/
structure RCode (F : PH) (c : Cd) (vc vg vi vn : Value) : Prop where
  cons : SlE F 2 RNum vc c.cons
  globals : SlE F 2 RNum vg c.globals
  infos : SlE F 4 RInf vi c.infos
  ins : SlE F 7 (RIns F) vn c.ins
/-- What right programs are known for. -/
structure Right (ds : List Dat) (bs : List Bind) : Prop where
  cons : (ds.map Dat.name).Nodup
  forms : ∀ b ∈ bs, okX (env ds bs) (b.args ++ []) b.body
theorem nil_code (F : PH) : RCode F ⟨[], [], [], []⟩ (.slice none 0 0) (.slice none 0 0) (.slice none 0 0) (.slice none 0 0) := ⟨nil_sle _ _ _, nil_sle _ _ _, nil_sle _ _ _, nil_sle _ _ _⟩
def CompQ (ds : List Dat) (bs : List Bind) (v : Value) (F' : PH) : Prop := ∃ c at_ e vc vg vi vn, v = .tuple #[.agg #[vc, vg, vi, vn], i64v at_, i64v e] ∧ RCode F' c vc vg vi vn ∧ Compiles ds bs c at_ e
theorem begins_ok {ds : List Dat} {bs : List Bind} (hforms : ∀ b ∈ bs, okX (env ds bs) (b.args ++ []) b.body) : AllOk (env ds bs) (begins bs) := by
  obtain ⟨hbf1, hbf2, hbf3⟩ := begins_forms bs
  refine ⟨by rw [hbf1, hbf2]; simp, fun p hp => ?_⟩
  rw [hbf1, hbf2] at hp
  obtain ⟨j, hj, hpj⟩ := List.mem_iff_getElem.1 hp
  rw [List.getElem_zip] at hpj
  rw [← hpj]
  simp only [List.getElem_map]
  exact hforms _ (List.getElem_mem _)
theorem begins_sm (bs : List Bind) : Sm (sizeBs bs) (begins bs) := by
  obtain ⟨hbf1, hbf2, hbf3⟩ := begins_forms bs
  refine ⟨fun f hf => ?_, fun d hd => ?_⟩
  · rw [hbf1] at hf
    obtain ⟨b, hb, rfl⟩ := List.mem_map.1 hf
    have h1 := V.sizeBs_mem hb
    have h2 := V.bsize_eq b
    have h3 := sizeS_len' b.args
    dsimp only
    omega
  · rw [hbf2] at hd
    obtain ⟨b, hb, rfl⟩ := List.mem_map.1 hd
    exact Nat.zero_le _
theorem compile (ds : List Dat) (bs : List Bind) (F : PH) (vd vb : Value) (hd : Dats F vd ds) (hbs : SlE F 11 (RBind F) vb bs) (hT : P.Table F) (hs : sizeBs bs ≤ 4000000) (hdl : ds.length ≤ 10000000) (hR : (checkC ds bs).e = 0 → Right ds bs) :
    PFn Tryd.prog 7 [.agg #[vd, vb]] F (CompQ ds bs) := by
  have hd' := hd
  have hbs' := hbs
  obtain ⟨pd, cd, rfl, hd1, hd2⟩ := hd.val
  obtain ⟨pb, cb, rfl, hb1, hb2⟩ := hbs.val
  have hbl := V.sizeBs_count bs
  refine Fn.intro (n := 132) (ts := [.cell 2 31, 3, 4]) Tryd.func7 rfl rfl rfl rfl (by simp) fun B hB => ?_
  by_cases he : (checkC ds bs).e = 0
  case neg =>
    refine VC.go 100 ?_
    simp only [push_cast, ↓reduceIte, Nat.reduceEqDiff, Nat.reduceAdd, Nat.reduceMul, Nat.reduceSub, Nat.reduceLT, Nat.reduceLeDiff, reduceCtorEq, Nat.reduceMod, Int.reduceEq, Int.reduceLT, Int.reduceLE, Int.reduceToNat, dite_true]
    intro b1 b2
    refine CallV.pure (P.check ds bs F _ _ hd' hbs' hT (by omega)) ?_
    rintro _ F1 hF1 rfl
    simp only [push_cast, ↓reduceIte, Nat.reduceEqDiff, Nat.reduceAdd, Nat.reduceMul, Nat.reduceSub, Nat.reduceLT, Nat.reduceLeDiff, reduceCtorEq, Nat.reduceMod, Int.reduceEq, Int.reduceLT, Int.reduceLE, Int.reduceToNat, dite_true, he]
    exact ⟨[_, _, _], [], by simp only [push_cast, ↓reduceIte, Nat.reduceEqDiff, Nat.reduceAdd, Nat.reduceMul, Nat.reduceSub, Nat.reduceLT, Nat.reduceLeDiff, reduceCtorEq, Nat.reduceMod, Int.reduceEq, Int.reduceLT, Int.reduceLE, Int.reduceToNat, dite_true, rvals, rval1], .sub (List.nil_sublist _), rfl, ⟨[], [], [], []⟩, (checkC ds bs).at_, (checkC ds bs).e, _, _, _, _, rfl, nil_code _, by unfold Compiles; simp [he]⟩
  obtain ⟨hnd, hforms⟩ := hR he
  refine VC.emp (VC.emp (VC.emp (VC.emp (VC.emp (VC.go 11 ?_)))))
  simp only [push_cast, ↓reduceIte, Nat.reduceEqDiff, Nat.reduceAdd, Nat.reduceMul, Nat.reduceSub, Nat.reduceLT, Nat.reduceLeDiff, reduceCtorEq, Nat.reduceMod, Int.reduceEq, Int.reduceLT, Int.reduceLE, Int.reduceToNat, dite_true]
  intro b1 b2
  refine CallV.pure (P.check ds bs F _ _ hd' hbs' hT (by omega)) ?_
  rintro _ F1 hF1 rfl
  simp only [push_cast, ↓reduceIte, Nat.reduceEqDiff, Nat.reduceAdd, Nat.reduceMul, Nat.reduceSub, Nat.reduceLT, Nat.reduceLeDiff, reduceCtorEq, Nat.reduceMod, Int.reduceEq, Int.reduceLT, Int.reduceLE, Int.reduceToNat, dite_true, eq_true he]
  refine Eff.makeMap rfl fun mc => ?_
  simp only [push_cast, ↓reduceIte, Nat.reduceEqDiff, Nat.reduceAdd, Nat.reduceMul, Nat.reduceSub, Nat.reduceLT, Nat.reduceLeDiff, reduceCtorEq, Nat.reduceMod, Int.reduceEq, Int.reduceLT, Int.reduceLE, Int.reduceToNat, dite_true]
  refine Eff.makeMap rfl fun mt => ?_
  simp only [push_cast, ↓reduceIte, Nat.reduceEqDiff, Nat.reduceAdd, Nat.reduceMul, Nat.reduceSub, Nat.reduceLT, Nat.reduceLeDiff, reduceCtorEq, Nat.reduceMod, Int.reduceEq, Int.reduceLT, Int.reduceLE, Int.reduceToNat, dite_true]
  intro sb
  refine VC.renM [(7, .o 0 sb 0), (1, .o 1 b1 0), (2, .o 2 b2 0)] [⟨1, b1, 25, [.slice pd ds.length cd, .slice pb bs.length cb]⟩, ⟨2, b2, 31, [.slice none 0 0, .slice none 0 0, .slice none 0 0, .slice none 0 0]⟩, ⟨0, sb, 70, [.slice none 0 0, .slice none 0 0, .slice none 0 0, .slice none 0 0, .map (some mc), .map (some mt), .slice none 0 0, .bool false]⟩] 3 (by simp [subv, Eng.look, AV.val]) (by rfl) ?_
  refine VC.seq (VC.cutW (ι := PH × Value × PH × Array MapEntry × Nat × List (ByteArray × Value)) (fun _ => [(7, .o 0 sb 0), (1, .o 1 b1 0), (2, .o 2 b2 0)]) (fun j => [⟨1, b1, 25, [.slice pd ds.length cd, .slice pb bs.length cb]⟩, ⟨2, b2, 31, [.slice none 0 0, .slice none 0 0, .slice none 0 0, .slice none 0 0]⟩, ⟨0, sb, 70, schC j.2.1 (.slice none 0 0) (.slice none 0 0) (.slice none 0 0) (.map (some mc)) (.map (some mt)) (.slice none 0 0) false⟩]) (fun j => j.1) (fun j => [PH.one mt (.map #[] 0), PH.one mc (.map j.2.2.2.1 j.2.2.2.2.1), j.2.2.1, PH.emp, PH.emp, PH.emp, PH.emp])
    (fun j => F1.le j.1 ∧ RowE j.2.2.1 74 2 RNum j.2.1 (ds.map fun d => (d.name, d.arity)) ∧ MapIs Value.string j.2.2.2.1 j.2.2.2.2.1 j.2.2.2.2.2 ∧ (j.2.2.2.2.2.map Prod.fst).Nodup ∧ ∀ x, mget j.2.2.2.2.2 x = (fo (ds.map Dat.name) x).map i64v) (fun G hG => ?_) ?_)
  · refine VC.go 100 ?_
    simp only [push_cast, ↓reduceIte, Nat.reduceEqDiff, Nat.reduceAdd, Nat.reduceMul, Nat.reduceSub, Nat.reduceLT, Nat.reduceLeDiff, reduceCtorEq, Nat.reduceMod, Int.reduceEq, Int.reduceLT, Int.reduceLE, Int.reduceToNat, dite_true]
    refine VC.loopW (ι := Nat × PH × Value × PH × Array MapEntry × Nat × List (ByteArray × Value)) (fun j => [(30, .v (i64v j.1)), (29, .v (i64v ds.length)), (28, .v (.slice pd ds.length cd)), (7, .o 0 sb 0), (1, .o 1 b1 0), (2, .o 2 b2 0)]) (fun j => [⟨1, b1, 25, [.slice pd ds.length cd, .slice pb bs.length cb]⟩, ⟨2, b2, 31, [.slice none 0 0, .slice none 0 0, .slice none 0 0, .slice none 0 0]⟩, ⟨0, sb, 70, schC j.2.2.1 (.slice none 0 0) (.slice none 0 0) (.slice none 0 0) (.map (some mc)) (.map (some mt)) (.slice none 0 0) false⟩]) (fun j => j.2.1) (fun j => [PH.one mt (.map #[] 0), PH.one mc (.map j.2.2.2.2.1 j.2.2.2.2.2.1), j.2.2.2.1, PH.emp, PH.emp, PH.emp, PH.emp])
      (fun j => j.1 ≤ ds.length ∧ F1.le j.2.1 ∧ RowE j.2.2.2.1 74 2 RNum j.2.2.1 ((ds.take j.1).map fun d => (d.name, d.arity)) ∧ MapIs Value.string j.2.2.2.2.1 j.2.2.2.2.2.1 j.2.2.2.2.2.2 ∧ (j.2.2.2.2.2.2.map Prod.fst).Nodup ∧ ∀ x, mget j.2.2.2.2.2.2 x = (fo ((ds.take j.1).map Dat.name) x).map i64v) (fun j => ds.length - j.1) (0, F1, .slice none 0 0, PH.emp, #[], 0, []) ⟨Nat.zero_le _, PH.le_refl _, ⟨[], Row.nil _ _, rfl⟩, mapIs_nil _, by simp, fun s => by simp [mget, fo, findL]⟩ (by simp [subk, Eng.look]) (List.Sublist.refl _) rfl (subR_refl _) ?_
    rintro ⟨k, G0, vk, rk, es1, cc1, kv1⟩ ⟨hk, hG0, hrk, hm1', hn1', hg1⟩ G1 hG1
    dsimp only at hk hG0 hrk hm1' hn1' hg1 hG1 ⊢
    refine VC.go 100 ?_
    by_cases h : k < ds.length
    case neg =>
      have h' : ¬ (k : Int) < (ds.length : Int) := by omega
      simp only [push_cast, ↓reduceIte, Nat.reduceEqDiff, Nat.reduceAdd, Nat.reduceMul, Nat.reduceSub, Nat.reduceLT, Nat.reduceLeDiff, reduceCtorEq, Nat.reduceMod, Int.reduceEq, Int.reduceLT, Int.reduceLE, Int.reduceToNat, dite_true, h']
      rw [List.take_of_length_le (by omega)] at hg1 hrk
      exact hG (G0, vk, rk, es1, cc1, kv1) _ ⟨hG0, hrk, hm1', hn1', hg1⟩ (by simp [subk, Eng.look]) (List.Sublist.refl _) rfl (subR_refl _)
    have h' : (k : Int) < (ds.length : Int) := by omega
    have h0 : (0 : Int) ≤ (k : Int) := by omega
    obtain ⟨q, _, cs, eq, _, _, kl, kr⟩ := hd'.elem (by decide) (i := k) (a := ds[k]) (List.getElem?_eq_getElem h) (fun _ _ h => h.len)
    cases eq
    obtain rfl := kr
    have e2 : IntKind.i64.wrap ((k : Int) + 1) = ((k + 1 : Nat) : Int) := wadd k h (Nat.le_trans hd1 hd2)
    have kl' := (PH.le_trans hF1 hG0).cells kl
    simp only [push_cast, ↓reduceIte, Nat.reduceEqDiff, Nat.reduceAdd, Nat.reduceMul, Nat.reduceSub, Nat.reduceLT, Nat.reduceLeDiff, reduceCtorEq, Nat.reduceMod, Int.reduceEq, Int.reduceLT, Int.reduceLE, Int.reduceToNat, dite_true, h', h0, kl']
    intro b9
    refine VC.draw (.q 0 (.q 1 (.q 2 (.q 3 (.q 4 (.q 5 (.q 6 (.e 7 (.done))))))))) mixed (by rfl) ?_
    simp only [push_cast, ↓reduceIte, Nat.reduceEqDiff, Nat.reduceAdd, Nat.reduceMul, Nat.reduceSub, Nat.reduceLT, Nat.reduceLeDiff, reduceCtorEq, Nat.reduceMod, Int.reduceEq, Int.reduceLT, Int.reduceLE, Int.reduceToNat, dite_true]
    refine Eff.updateI keyStr rfl rfl ty67 rfl Tryd.underlying9 rfl rfl rfl (List.Perm.swap _ _ _) hm1' fun es2 cc2 hm2' => ?_
    simp only [push_cast, ↓reduceIte, Nat.reduceEqDiff, Nat.reduceAdd, Nat.reduceMul, Nat.reduceSub, Nat.reduceLT, Nat.reduceLeDiff, reduceCtorEq, Nat.reduceMod, Int.reduceEq, Int.reduceLT, Int.reduceLE, Int.reduceToNat, dite_true]
    refine VC.draw (.q 0 (.q 1 (.q 2 (.q 3 (.q 4 (.q 5 (.q 6 (.q 7 (.q 8 (.q 9 (.e 10 (.e 11 (.e 12 (.q 13 (.q 14 (.q 15 (.es 16 [13, 14] (.done)))))))))))))))))) mixed (by rfl) ?_
    simp only [push_cast, ↓reduceIte, Nat.reduceEqDiff, Nat.reduceAdd, Nat.reduceMul, Nat.reduceSub, Nat.reduceLT, Nat.reduceLeDiff, reduceCtorEq, Nat.reduceMod, Int.reduceEq, Int.reduceLT, Int.reduceLE, Int.reduceToNat, dite_true]
    intro b53 G2 hG2 hb53
    obtain ⟨xs, hrow, hes⟩ := hrk
    have hxs := hes.len (fun _ _ h => h.len)
    have htl : (List.map (fun d => (d.name, d.arity)) (List.take k ds)).length = k := by simp; omega
    rw [htl] at hxs
    refine Eff.append rfl rfl rfl ty26 rfl ty74 rfl (by decide) rfl rfl ((List.Perm.cons _ (.swap _ _ _)).trans (.swap _ _ _)) hrow (src_one hb53 rfl) (by simp [Value.oneCell']) (by simp [hxs]; omega) (by decide) fun v2 r2 hr2 => ?_
    obtain ⟨p2, m2, c2, rfl, q1, q2, q3⟩ := hr2.len
    simp only [push_cast, ↓reduceIte, Nat.reduceEqDiff, Nat.reduceAdd, Nat.reduceMul, Nat.reduceSub, Nat.reduceLT, Nat.reduceLeDiff, reduceCtorEq, Nat.reduceMod, Int.reduceEq, Int.reduceLT, Int.reduceLE, Int.reduceToNat, dite_true]
    refine VC.go 100 ?_
    simp only [push_cast, ↓reduceIte, Nat.reduceEqDiff, Nat.reduceAdd, Nat.reduceMul, Nat.reduceSub, Nat.reduceLT, Nat.reduceLeDiff, reduceCtorEq, Nat.reduceMod, Int.reduceEq, Int.reduceLT, Int.reduceLE, Int.reduceToNat, dite_true, e2]
    have htk : ds.take (k + 1) = ds.take k ++ [ds[k]] := List.take_succ_eq_append_getElem h
    refine hG1 (k + 1, G2, _, r2, es2, cc2, _) _ ⟨by omega, PH.le_trans hG0 hG2, ⟨_, hr2, ?_⟩, hm2', (mput_keys hn1').1, fun x => ?_⟩ (by simp; omega) (by simp [subk, Eng.look]) (List.sublist_append_left _ [_]) rfl (subR_perm (((List.Perm.swap _ _ _).trans (.cons _ (.swap _ _ _))).trans (.swap _ _ _)))
    · dsimp only
      rw [htk, List.map_append]
      exact each_snoc hes rfl
    · dsimp only
      rw [htk, List.map_append, List.map_singleton, fo_snoc, mget_mput, hg1, List.length_map, List.length_take, Nat.min_eq_left (Nat.le_of_lt h)]
      by_cases hx : ds[k].name = x <;> simp [hx]
  rintro ⟨G0, vc, rc, esC, ccC, kvC⟩ ⟨hG0, hrc, hmC, hnC, hgC⟩
  dsimp only at hG0 hrc hmC hnC hgC ⊢
  have hF0 : F.le G0 := PH.le_trans hF1 hG0
  refine VC.freezeR ((List.Perm.swap _ _ _).trans (.cons _ (.refl _))) fun G1 hG1 hmcG => ?_
  refine VC.freezeR (List.Perm.swap _ _ _) fun G2 hG2 hrcG => ?_
  dsimp only at hG1 hmcG hG2 hrcG
  obtain ⟨pc, cc, rfl, hvc1, hvc2⟩ := hrc.val (by decide) (fun _ _ h => h.len)
  have hF2 : F.le G2 := PH.le_trans hF0 (PH.le_trans hG1 hG2)
  refine VC.seq (VC.cutW (ι := PH × Value × PH × Value × PH × Value × PH × Array MapEntry × Nat × List (ByteArray × Value)) (fun _ => [(7, .o 0 sb 0), (1, .o 1 b1 0), (2, .o 2 b2 0)]) (fun ⟨_, vg, _, vi, _, vq, _⟩ => [⟨1, b1, 25, [.slice pd ds.length cd, .slice pb bs.length cb]⟩, ⟨2, b2, 31, [.slice none 0 0, .slice none 0 0, .slice none 0 0, .slice none 0 0]⟩, ⟨0, sb, 70, schC (.slice pc (ds.map fun d => (d.name, d.arity)).length cc) vg vi (.slice none 0 0) (.map (some mc)) (.map (some mt)) vq false⟩]) (fun j => j.1) (fun ⟨_, _, rg, _, ri, _, rq, es, c, _⟩ => [PH.one mt (.map es c), rg, ri, rq, PH.emp])
    (fun ⟨G, vg, rg, vi, ri, vq, rq, es, c, kv⟩ => G2.le G ∧ RowE rg 43 2 RNum vg (globs bs 0) ∧ Sch G sb 0 (begins bs) vi (.slice none 0 0) vq ri PH.emp rq ∧ MapIs Value.string es c kv ∧ (kv.map Prod.fst).Nodup ∧ ∀ x, mget kv x = (fo (bs.map Bind.name) x).map i64v) (fun G hG => ?_) ?_)
  · refine VC.go 100 ?_
    simp only [push_cast, ↓reduceIte, Nat.reduceEqDiff, Nat.reduceAdd, Nat.reduceMul, Nat.reduceSub, Nat.reduceLT, Nat.reduceLeDiff, reduceCtorEq, Nat.reduceMod, Int.reduceEq, Int.reduceLT, Int.reduceLE, Int.reduceToNat, dite_true]
    refine VC.loopW (ι := Nat × PH × Value × PH × Value × PH × Value × PH × Array MapEntry × Nat × List (ByteArray × Value)) (fun j => [(62, .v (i64v j.1)), (61, .v (i64v bs.length)), (60, .v (.slice pb bs.length cb)), (7, .o 0 sb 0), (1, .o 1 b1 0), (2, .o 2 b2 0)]) (fun ⟨_, _, vg, _, vi, _, vq, _⟩ => [⟨1, b1, 25, [.slice pd ds.length cd, .slice pb bs.length cb]⟩, ⟨2, b2, 31, [.slice none 0 0, .slice none 0 0, .slice none 0 0, .slice none 0 0]⟩, ⟨0, sb, 70, schC (.slice pc (ds.map fun d => (d.name, d.arity)).length cc) vg vi (.slice none 0 0) (.map (some mc)) (.map (some mt)) vq false⟩]) (fun j => j.2.1) (fun ⟨_, _, _, rg, _, ri, _, rq, es, c, _⟩ => [PH.one mt (.map es c), rg, ri, rq, PH.emp])
      (fun ⟨k, G, vg, rg, vi, ri, vq, rq, es, c, kv⟩ => k ≤ bs.length ∧ G2.le G ∧ RowE rg 43 2 RNum vg (globs (bs.take k) 0) ∧ Sch G sb 0 (begins (bs.take k)) vi (.slice none 0 0) vq ri PH.emp rq ∧ MapIs Value.string es c kv ∧ (kv.map Prod.fst).Nodup ∧ ∀ x, mget kv x = (fo ((bs.take k).map Bind.name) x).map i64v) (fun j => bs.length - j.1) (0, G2, .slice none 0 0, PH.emp, .slice none 0 0, PH.emp, .slice none 0 0, PH.emp, #[], 0, []) ⟨Nat.zero_le _, PH.le_refl _, ⟨[], Row.nil _ _, rfl⟩, ⟨⟨[], Row.nil _ _, rfl⟩, ⟨[], Row.nil _ _, rfl⟩, ⟨[], QRow.nil _ _, rfl⟩, rfl, rfl, Nat.zero_le _⟩, mapIs_nil _, by simp, fun s => by simp [mget, fo, findL]⟩ (by simp [subk, Eng.look]) (List.Sublist.refl _) rfl (subR_refl _) ?_
    rintro ⟨k, G3, vg, rg, vi, ri, vq, rq, es1, cc1, kv1⟩ ⟨hk, hG3, hrg, hS, hm1', hn1', hg1⟩ G4 hG4
    dsimp only at hk hG3 hrg hS hm1' hn1' hg1 hG4 ⊢
    refine VC.go 100 ?_
    by_cases h : k < bs.length
    case neg =>
      have h' : ¬ (k : Int) < (bs.length : Int) := by omega
      simp only [push_cast, ↓reduceIte, Nat.reduceEqDiff, Nat.reduceAdd, Nat.reduceMul, Nat.reduceSub, Nat.reduceLT, Nat.reduceLeDiff, reduceCtorEq, Nat.reduceMod, Int.reduceEq, Int.reduceLT, Int.reduceLE, Int.reduceToNat, dite_true, h']
      rw [List.take_of_length_le (by omega)] at hg1 hrg hS
      exact hG (G3, vg, rg, vi, ri, vq, rq, es1, cc1, kv1) _ ⟨hG3, hrg, hS, hm1', hn1', hg1⟩ (by simp [subk, Eng.look]) (List.Sublist.refl _) rfl (subR_refl _)
    have h' : (k : Int) < (bs.length : Int) := by omega
    have h0 : (0 : Int) ≤ (k : Int) := by omega
    obtain ⟨q, _, cs, eq, _, _, kl, kr⟩ := (hbs'.mono (R' := RBind G3) (PH.le_trans hF2 hG3) (fun _ _ _ h => h.mono (PH.le_trans hF2 hG3))).elem (by decide) (i := k) (a := bs[k]) (List.getElem?_eq_getElem h) (fun _ _ h => h.len)
    cases eq
    obtain ⟨va2, c2, rfl, hva, hvc⟩ := RBind_iff.1 kr
    obtain ⟨wa, wb, we, wl, rfl, wx⟩ := RExp_iff.1 hvc
    have wx' := wx
    obtain ⟨pa2, ca2, pb2, cb2, pe2, ce2, pl2, cl2, rfl, rfl, rfl, rfl⟩ := wx.slices
    have hva' := hva
    obtain ⟨pv, cv, rfl, _, _, _⟩ := hva
    have e2 : IntKind.i64.wrap ((k : Int) + 1) = ((k + 1 : Nat) : Int) := wadd k h (Nat.le_trans hb1 hb2)
    simp only [push_cast, ↓reduceIte, Nat.reduceEqDiff, Nat.reduceAdd, Nat.reduceMul, Nat.reduceSub, Nat.reduceLT, Nat.reduceLeDiff, reduceCtorEq, Nat.reduceMod, Int.reduceEq, Int.reduceLT, Int.reduceLE, Int.reduceToNat, dite_true, h', h0, kl]
    intro b9
    refine VC.draw (.q 0 (.q 1 (.q 2 (.q 3 (.q 4 (.q 5 (.q 6 (.e 7 (.done))))))))) mixed (by rfl) ?_
    simp only [push_cast, ↓reduceIte, Nat.reduceEqDiff, Nat.reduceAdd, Nat.reduceMul, Nat.reduceSub, Nat.reduceLT, Nat.reduceLeDiff, reduceCtorEq, Nat.reduceMod, Int.reduceEq, Int.reduceLT, Int.reduceLE, Int.reduceToNat, dite_true, expCells]
    refine Eff.updateI keyStr rfl rfl ty67 rfl Tryd.underlying9 rfl rfl rfl (List.Perm.refl _) hm1' fun es2 cc2 hm2' => ?_
    simp only [push_cast, ↓reduceIte, Nat.reduceEqDiff, Nat.reduceAdd, Nat.reduceMul, Nat.reduceSub, Nat.reduceLT, Nat.reduceLeDiff, reduceCtorEq, Nat.reduceMod, Int.reduceEq, Int.reduceLT, Int.reduceLE, Int.reduceToNat, dite_true]
    refine VC.seq (VC.draw (.q 0 (.q 1 (.q 2 (.q 3 (.q 4 (.q 5 (.q 6 (.q 7 (.q 8 (.e 9 (.e 10 (.e 11 (.q 12 (.q 13 (.q 14 (.es 15 [12, 13] (.done))))))))))))))))) mixed (by rfl) ?_)
    simp only [push_cast, ↓reduceIte, Nat.reduceEqDiff, Nat.reduceAdd, Nat.reduceMul, Nat.reduceSub, Nat.reduceLT, Nat.reduceLeDiff, reduceCtorEq, Nat.reduceMod, Int.reduceEq, Int.reduceLT, Int.reduceLE, Int.reduceToNat, dite_true]
    intro b84 G5 hG5 hb84
    obtain ⟨xs, hrow, hes⟩ := hrg
    have hxs := hes.len (fun _ _ h => h.len)
    have htl : (globs (List.take k bs) 0).length = k := by rw [globs_len]; simp; omega
    rw [htl] at hxs
    refine Eff.append rfl rfl rfl ty27 rfl ty43 rfl (by decide) rfl rfl (.swap _ _ _) hrow (src_one hb84 rfl) (by simp [Value.oneCell']) (by simp [hxs]; omega) (by decide) fun v2 r2 hr2 => ?_
    obtain ⟨p2, m2, c2, rfl, q1, q2, q3⟩ := hr2.len
    simp only [push_cast, ↓reduceIte, Nat.reduceEqDiff, Nat.reduceAdd, Nat.reduceMul, Nat.reduceSub, Nat.reduceLT, Nat.reduceLeDiff, reduceCtorEq, Nat.reduceMod, Int.reduceEq, Int.reduceLT, Int.reduceLE, Int.reduceToNat, dite_true]
    refine VC.go 100 ?_
    simp only [push_cast, ↓reduceIte, Nat.reduceEqDiff, Nat.reduceAdd, Nat.reduceMul, Nat.reduceSub, Nat.reduceLT, Nat.reduceLeDiff, reduceCtorEq, Nat.reduceMod, Int.reduceEq, Int.reduceLT, Int.reduceLE, Int.reduceToNat, dite_true]
    refine callInfo0 (s := begins (bs.take k)) (f := ((bs[k]).args, (bs[k]).body)) (need := []) (Re := [r2, PH.one mt (.map es2 cc2)]) (begins_big _).symm rfl ?_ rfl rfl rfl rfl (hS.mono hG5) ?_ (nil_strs _) ?_ fun G6 vi' vq' ri' rq' hG6 hS' => ?_
    · exact (List.perm_append_comm (l₁ := [_, _]) (l₂ := [_, _, _])).trans (.cons _ (.swap _ _ _))
    · exact ⟨_, _, rfl, hva'.mono hG5, RExp_iff.2 ⟨_, _, _, _, rfl, wx'.mono hG5⟩⟩
    · rw [begins_infos, List.length_take]; omega
    simp only [push_cast, ↓reduceIte, Nat.reduceEqDiff, Nat.reduceAdd, Nat.reduceMul, Nat.reduceSub, Nat.reduceLT, Nat.reduceLeDiff, reduceCtorEq, Nat.reduceMod, Int.reduceEq, Int.reduceLT, Int.reduceLE, Int.reduceToNat, dite_true, e2]
    have htk : bs.take (k + 1) = bs.take k ++ [bs[k]] := List.take_succ_eq_append_getElem h
    have hbg : (infoS (begins (List.take k bs)) (bs[k].args, bs[k].body) []).big = false := by rw [← begins_snoc]; exact begins_big _
    rw [← begins_snoc, ← htk] at hS'
    rw [hbg]
    refine hG4 (k + 1, G6, _, r2, vi', ri', vq', rq', es2, cc2, _) _ ⟨by omega, PH.le_trans hG3 (PH.le_trans hG5 hG6), ⟨_, hr2, ?_⟩, hS', hm2', (mput_keys hn1').1, fun x => ?_⟩ (by simp; omega) (by simp [subk, Eng.look]) (List.sublist_append_left _ [_]) rfl (subR_perm ((List.perm_append_comm (l₁ := [_, _, _]) (l₂ := [_, _])).trans ((List.Perm.swap _ _ _).trans (.cons _ (.cons _ (.cons _ (.swap _ _ _)))))))
    · rw [htk, globs_snoc, List.length_take, Nat.min_eq_left (Nat.le_of_lt h), Nat.zero_add]
      exact each_snoc hes rfl
    · rw [htk, List.map_append, List.map_singleton, fo_snoc, mget_mput, hg1, List.length_map, List.length_take, Nat.min_eq_left (Nat.le_of_lt h)]
      by_cases hx : bs[k].name = x <;> simp [hx]
  rintro ⟨G7, vg, rg, vi, ri, vq, rq, esT, ccT, kvT⟩ ⟨hG7, hrg, hS, hmT, hnT, hgT⟩
  dsimp only at hG7 hrg hS hmT hnT hgT ⊢
  refine VC.freezeR (.refl _) fun G8 hG8 hmtG => ?_
  refine VC.freezeR (.refl _) fun G9 hG9 hrgG => ?_
  dsimp only at hG8 hmtG hG9 hrgG
  obtain ⟨pg, cg, rfl, hvg1, hvg2⟩ := hrg.val (by decide) (fun _ _ h => h.len)
  have hG79 : G7.le G9 := PH.le_trans hG8 hG9
  have hF9 : F.le G9 := PH.le_trans hF2 (PH.le_trans hG7 hG79)
  have hS9 := hS.mono hG79
  have hC : Ctx G9 (env ds bs) (.slice pc (ds.map fun d => (d.name, d.arity)).length cc) (.slice pg (globs bs 0).length cg) (.map (some mc)) (.map (some mt)) := by
    refine ⟨?_, ?_, by simp; omega, hT.mono hF9, rfl, rfl⟩
    · refine ⟨fo (ds.map Dat.name), ⟨mc, esC, ccC, kvC, rfl, ?_, hmC, hnC, hgC⟩, fun s => fo_conD ds s hnd⟩
      exact PH.le_trans hG2 (PH.le_trans hG7 hG79) _ _ (hmcG _ _ (PH.one_self _ _))
    · exact ⟨mt, esT, ccT, kvT, rfl, hG9 _ _ (hmtG _ _ (PH.one_self _ _)), hmT, hnT, hgT⟩
  obtain ⟨hbf1, hbf2, hbf3⟩ := begins_forms bs
  have hok0 : AllOk (env ds bs) (begins bs) := begins_ok hforms
  have hsm0 : Sm (sizeBs bs) (begins bs) := begins_sm bs
  refine VC.seq (VC.cutW (ι := PH × Sc × Nat × Value × Value × Value × PH × PH × PH) (fun _ => [(7, .o 0 sb 0), (1, .o 1 b1 0), (2, .o 2 b2 0)]) (fun ⟨_, s, _, vi, vn, vq, _⟩ => [⟨1, b1, 25, [.slice pd ds.length cd, .slice pb bs.length cb]⟩, ⟨2, b2, 31, [.slice none 0 0, .slice none 0 0, .slice none 0 0, .slice none 0 0]⟩, ⟨0, sb, 70, schC (.slice pc (ds.map fun d => (d.name, d.arity)).length cc) (.slice pg (globs bs 0).length cg) vi vn (.map (some mc)) (.map (some mt)) vq s.big⟩]) (fun j => j.1) (fun ⟨_, _, _, _, _, _, ri, rn, rq⟩ => [ri, rn, rq])
    (fun ⟨G, s, i, vi, vn, vq, ri, rn, rq⟩ => G9.le G ∧ Sch G sb i s vi vn vq ri rn rq ∧ RunQ (env ds bs) 0 (begins bs) s) (fun G hG => ?_) ?_)
  · refine VC.go 1 ?_
    simp only [push_cast, ↓reduceIte, Nat.reduceEqDiff, Nat.reduceAdd, Nat.reduceMul, Nat.reduceSub, Nat.reduceLT, Nat.reduceLeDiff, reduceCtorEq, Nat.reduceMod, Int.reduceEq, Int.reduceLT, Int.reduceLE, Int.reduceToNat, dite_true]
    refine VC.loopW (ι := PH × Sc × Nat × Value × Value × Value × PH × PH × PH) (fun _ => [(7, .o 0 sb 0), (1, .o 1 b1 0), (2, .o 2 b2 0)]) (fun ⟨_, s, _, vi, vn, vq, _⟩ => [⟨1, b1, 25, [.slice pd ds.length cd, .slice pb bs.length cb]⟩, ⟨2, b2, 31, [.slice none 0 0, .slice none 0 0, .slice none 0 0, .slice none 0 0]⟩, ⟨0, sb, 70, schC (.slice pc (ds.map fun d => (d.name, d.arity)).length cc) (.slice pg (globs bs 0).length cg) vi vn (.map (some mc)) (.map (some mt)) vq s.big⟩]) (fun j => j.1) (fun ⟨_, _, _, _, _, _, ri, rn, rq⟩ => [ri, rn, rq])
      (fun ⟨G, s, i, vi, vn, vq, ri, rn, rq⟩ => G9.le G ∧ Sch G sb i s vi vn vq ri rn rq ∧ (∀ t, RunQ (env ds bs) i s t → RunQ (env ds bs) 0 (begins bs) t) ∧ AllOk (env ds bs) s ∧ Sm (sizeBs bs) s ∧ s.ins.length + 2 * waitsSize (s.forms.drop i) ≤ 2 * sizeBs bs ∧ s.infos.length + waitsSize (s.forms.drop i) ≤ sizeBs bs) (fun ⟨_, s, i, _⟩ => waitsSize (s.forms.drop i)) (G9, begins bs, 0, vi, .slice none 0 0, vq, ri, PH.emp, rq) ⟨PH.le_refl _, hS9, fun t h => h, hok0, hsm0, ?_, ?_⟩ (by simp [subk, Eng.look]) (by dsimp only; rw [begins_big]; exact List.Sublist.refl _) rfl (subR_perm (.cons _ (.swap _ _ _))) ?_
    · have := waits_forms bs; rw [hbf3, hbf1]; simp; omega
    · have := waits_forms bs; rw [begins_infos, hbf1]; simp; omega
    rintro ⟨G3, s, i, vi, vn, vq, ri, rn, rq⟩ ⟨hG3, hS, hrun, hok, hsm, hn1, hn2⟩ G4 hG4
    dsimp only at hG3 hS hrun hok hsm hn1 hn2 hG4 ⊢
    have hwl := waits_len s.forms s.needs 0 (by rw [hS.e2, hS.e1])
    have hql : ((waits 0 s.forms s.needs).drop i).length = s.forms.length - i := by rw [List.length_drop, hwl]
    obtain ⟨pq, cq, rfl, hq1, hq2⟩ := hS.queue.val (by decide) (fun _ _ h => h.len)
    rw [hql] at hq1 ⊢
    by_cases h : i < s.forms.length
    case neg =>
      have h' : ¬ (0 : Int) < ((s.forms.length - i : Nat) : Int) := by omega
      refine VC.go 100 ?_
      simp only [push_cast, ↓reduceIte, Nat.reduceEqDiff, Nat.reduceAdd, Nat.reduceMul, Nat.reduceSub, Nat.reduceLT, Nat.reduceLeDiff, reduceCtorEq, Nat.reduceMod, Int.reduceEq, Int.reduceLT, Int.reduceLE, Int.reduceToNat, dite_true, h']
      refine hG (G3, s, i, vi, vn, _, ri, rn, rq) _ ⟨hG3, hS, hrun s (.stop fun hh => h hh.1)⟩ (by simp [subk, Eng.look]) (by rw [hql]; exact List.Sublist.refl _) rfl (subR_refl _)
    have h' : (0 : Int) < ((s.forms.length - i : Nat) : Int) := by omega
    by_cases hbig : s.big = true
    · refine VC.go 100 ?_
      simp only [push_cast, ↓reduceIte, Nat.reduceEqDiff, Nat.reduceAdd, Nat.reduceMul, Nat.reduceSub, Nat.reduceLT, Nat.reduceLeDiff, reduceCtorEq, Nat.reduceMod, Int.reduceEq, Int.reduceLT, Int.reduceLE, Int.reduceToNat, dite_true, h', hbig]
      refine hG (G3, s, i, vi, vn, _, ri, rn, rq) _ ⟨hG3, hS, hrun s (.stop fun hh => by simp [hbig] at hh)⟩ (by simp [subk, Eng.look]) (by dsimp only; rw [hql, hbig]; exact List.Sublist.refl _) rfl (subR_refl _)
    have hbig : s.big = false := by simpa using hbig
    have hni : i < s.infos.length := by rw [← hS.e1]; exact h
    have hnd : i < s.needs.length := by rw [hS.e2]; exact hni
    have hget : (waits 0 s.forms s.needs)[i]? = some (i, s.forms[i], s.needs[i]) := by
      have := waits_get s.forms s.needs 0 i s.forms[i] s.needs[i] (List.getElem?_eq_getElem h) (List.getElem?_eq_getElem hnd)
      rw [Nat.zero_add] at this; exact this
    have hdrop : (waits 0 s.forms s.needs).drop i = (i, s.forms[i], s.needs[i]) :: (waits 0 s.forms s.needs).drop (i + 1) := by
      have hlt : i < (waits 0 s.forms s.needs).length := by rw [hwl]; exact h
      rw [List.drop_eq_getElem_cons hlt]
      rw [List.getElem?_eq_getElem hlt] at hget
      rw [Option.some.inj hget]
    obtain ⟨xq, hrow, heach⟩ := hS.queue
    rw [hdrop] at heach
    obtain ⟨c0, ys, rfl, hRQ, hrest⟩ := heach
    have hRQ' := hRQ
    obtain ⟨bs', bn', bf', bd', bk', fc, vd', kd, rfl, r1, r2, r3, r4, r5, r6, r7⟩ := hRQ
    have hok' : okX (env ds bs) ((s.forms[i]).1 ++ s.needs[i]) (s.forms[i]).2 := hok.2 (s.forms[i], s.needs[i]) (by
      rw [List.mem_iff_getElem]
      exact ⟨i, by rw [List.length_zip]; omega, by rw [List.getElem_zip]⟩)
    have hwd : waitsSize (s.forms.drop i) = (s.forms[i]).2.size + waitsSize (s.forms.drop (i + 1)) := by
      rw [List.drop_eq_getElem_cons h]; unfold waitsSize; rw [List.map_cons, List.sum_cons]
    have hf1 := hsm.1 s.forms[i] (List.getElem_mem h)
    have hf2 := hsm.2 s.needs[i] (List.getElem_mem hnd)
    rw [hbig]
    refine VC.go 5 ?_
    simp only [push_cast, ↓reduceIte, Nat.reduceEqDiff, Nat.reduceAdd, Nat.reduceMul, Nat.reduceSub, Nat.reduceLT, Nat.reduceLeDiff, reduceCtorEq, Nat.reduceMod, Int.reduceEq, Int.reduceLT, Int.reduceLE, Int.reduceToNat, dite_true, h']
    obtain ⟨p0, rfl⟩ : ∃ p0, pq = some p0 := by
      rcases hrow with ⟨e, _⟩ | ⟨_, _, _, _, _, e, _⟩
      · simp at e; omega
      · simp only [Value.slice.injEq] at e; exact ⟨_, e.1⟩
    rw [hql] at hrow
    refine VC.qrowM (i := 9) (Rf := [ri, rn]) ((List.Perm.cons _ (.swap _ _ _)).trans (.swap _ _ _)) hrow fun g off csg hp0 hrq hoc hmc hcm hct => ?_
    subst hp0
    refine VC.fnone (m := ⟨9, g, _, _⟩) List.mem_cons_self fun hg => ?_
    refine VC.fnone (m := ⟨0, sb, _, _⟩) (.tail _ (.tail _ (.tail _ List.mem_cons_self))) fun hsb => ?_
    have hno := no_cell hg
    have hnos := no_cell hsb
    have hx0 : csg[off]? = some (.func (.func 41) #[] #[ptr bs', ptr bn', ptr bf', ptr bd', ptr bk']) := by
      have h1 : ((csg.drop off).take ((s.forms.length - i) * 1))[0]? = some (.func (.func 41) #[] #[ptr bs', ptr bn', ptr bf', ptr bd', ptr bk']) := by rw [hct]; rfl
      rw [List.getElem?_take, if_pos (by omega), List.getElem?_drop] at h1
      exact h1
    have h1le : (1 : Int) ≤ ((s.forms.length - i : Nat) : Int) := by omega
    refine VC.go 4 ?_
    simp only [push_cast, ↓reduceIte, Nat.reduceEqDiff, Nat.reduceAdd, Nat.reduceMul, Nat.reduceSub, Nat.reduceLT, Nat.reduceLeDiff, reduceCtorEq, Nat.reduceMod, Int.reduceEq, Int.reduceLT, Int.reduceLE, Int.reduceToNat, dite_true, hno, hnos, h', hx0, add_own, h1le]
    have hQ' : QRow (cell1 g 1 csg) 1 1 (.slice (if cq = 1 then some ⟨g, off, none⟩ else some ⟨g, off + 1, none⟩) (s.forms.length - i - 1) (cq - 1)) ys := by
      by_cases hc1 : cq = 1
      · subst hc1
        have e0 : s.forms.length - i - 1 = 0 := by omega
        have e1 : s.forms.length - i = 1 := by omega
        rw [e1] at hct
        have hl := congrArg List.length hct
        simp only [List.length_take, List.length_append, List.length_cons, List.length_nil] at hl
        have : ys = [] := List.length_eq_zero_iff.1 (by omega)
        rw [if_pos rfl, e0, this]
        exact QRow.back (off := off) (m := 0) (c := 0) (by omega) (Nat.le_refl _) (Nat.zero_le _)
      · rw [if_neg hc1]
        have hb := QRow.back (g := g) (e := 1) (cs := csg) (sz := 1) (off := off + 1) (m := s.forms.length - i - 1) (c := cq - 1) (by omega) (by omega) (by omega)
        have e1 : (csg.drop (off + 1)).take ((s.forms.length - i - 1) * 1) = ys := by
          have := congrArg (List.drop 1) hct
          simp only [List.cons_append, List.nil_append, List.drop_succ_cons, List.drop_zero] at this
          rw [← this, List.drop_take, List.drop_drop]
          congr 1
          omega
        rw [e1] at hb
        exact hb
    refine VC.go 1 ?_
    simp only [push_cast, ↓reduceIte, Nat.reduceEqDiff, Nat.reduceAdd, Nat.reduceMul, Nat.reduceSub, Nat.reduceLT, Nat.reduceLeDiff, reduceCtorEq, Nat.reduceMod, Int.reduceEq, Int.reduceLT, Int.reduceLE, Int.reduceToNat, dite_true, hno, hnos, h', hx0, add_own, h1le]
    refine VC.toR (m := ⟨9, g, 1, csg⟩) (.refl _) [(7, .o 0 sb 0), (12, .v (.func (.func 41) #[] #[ptr bs', ptr bn', ptr bf', ptr bd', ptr bk'])), (1, .o 1 b1 0), (2, .o 2 b2 0)] (by simp [subv, Eng.look, AV.val]) ?_
    refine VC.go 100 ?_
    simp only [push_cast, ↓reduceIte, Nat.reduceEqDiff, Nat.reduceAdd, Nat.reduceMul, Nat.reduceSub, Nat.reduceLT, Nat.reduceLeDiff, reduceCtorEq, Nat.reduceMod, Int.reduceEq, Int.reduceLT, Int.reduceLE, Int.reduceToNat, dite_true, Option.map_some, add_own]
    have hC3 := hC.mono hG3
    have hS3 : Sch G3 sb (i + 1) s vi vn (.slice (if cq = 1 then some ⟨g, off, none⟩ else some ⟨g, off + 1, none⟩) (s.forms.length - i - 1) (cq - 1)) ri rn (cell1 g 1 csg) := ⟨hS.infos, hS.ins, ⟨ys, hQ', hrest⟩, hS.e1, hS.e2, by omega⟩
    have hw := waiting G3 (env ds bs) sb (i + 1) i _ _ _ _ vi vn _ ri rn _ s (s.forms[i]) (s.needs[i]) bs' bn' bf' bd' bk' hRQ' hC3 hS3 hni hok' ⟨by omega, by omega, by rw [List.length_append]; omega, by omega⟩
    rw [hbig] at hw
    refine CallV.ownP (i := 0) (R1 := [ri, rn, cell1 g 1 csg]) (Rf := []) (Q' := fun v F' cs' R2 => ∃ vi' vn' vq' ri' rn' rq', cs' = schC (.slice pc (ds.map fun d => (d.name, d.arity)).length cc) (.slice pg (globs bs 0).length cg) vi' vn' (.map (some mc)) (.map (some mt)) vq' (stepQ (env ds bs) i (s.forms[i]) (s.needs[i]) s).big ∧ R2 = [ri', rn', rq'] ∧ Sch F' sb (i + 1) (stepQ (env ds bs) i (s.forms[i]) (s.needs[i]) s) vi' vn' vq' ri' rn' rq') rfl ((List.Perm.swap _ _ _).trans (.cons _ (.swap _ _ _))) hw ?_ ?_
    · rintro v F' R' _ ⟨vi', vn', vq', ri', rn', rq', rfl, k1, k2⟩
      exact ⟨_, _, _, rfl, by rw [List.append_nil], vi', vn', vq', ri', rn', rq', rfl, rfl, k1⟩
    rintro v F' cs' R2 hF' ⟨vi', vn', vq', ri', rn', rq', rfl, rfl, hS'⟩
    dsimp only at hF'
    simp only [push_cast, ↓reduceIte, Nat.reduceEqDiff, Nat.reduceAdd, Nat.reduceMul, Nat.reduceSub, Nat.reduceLT, Nat.reduceLeDiff, reduceCtorEq, Nat.reduceMod, Int.reduceEq, Int.reduceLT, Int.reduceLE, Int.reduceToNat, dite_true]
    obtain ⟨fs, u1, u2⟩ := (layE_on (env ds bs) (s.forms[i]).2 ((s.forms[i]).1 ++ s.needs[i]) (setTo s i s.ins.length)).forms
    obtain ⟨fs', u3, u4, u5⟩ := layE_sum (env ds bs) (s.forms[i]).2 ((s.forms[i]).1 ++ s.needs[i]) (setTo s i s.ins.length)
    obtain rfl : fs = fs' := List.append_cancel_left (u1.symm.trans u3)
    have hs1 : (setTo s i s.ins.length).forms = s.forms := rfl
    have hs2 : (setTo s i s.ins.length).ins = s.ins := rfl
    have hs3 : (setTo s i s.ins.length).infos.length = s.infos.length := by simp [setTo]
    rw [hs1] at u1
    rw [hs2] at u4
    rw [hs3] at u5
    have hdr : waitsSize ((stepQ (env ds bs) i (s.forms[i]) (s.needs[i]) s).forms.drop (i + 1)) = waitsSize (s.forms.drop (i + 1)) + waitsSize fs := by
      show waitsSize ((layE (env ds bs) (s.forms[i]).2 ((s.forms[i]).1 ++ s.needs[i]) (setTo s i s.ins.length)).forms.drop (i + 1)) = _
      rw [u1, List.drop_append_of_le_length (by omega), waitsSize_append]
    have hpos : 1 ≤ (s.forms[i]).2.size := by have := V.size_eq (s.forms[i]).2; omega
    refine hG4 (F', stepQ (env ds bs) i (s.forms[i]) (s.needs[i]) s, i + 1, vi', vn', vq', ri', rn', rq') _ ⟨PH.le_trans hG3 hF', hS', fun t ht => hrun t (.step (s.forms[i]) (s.needs[i]) hbig (List.getElem?_eq_getElem h) (List.getElem?_eq_getElem hnd) ht), layE_ok _ _ _ _ hok' (hok.congr rfl rfl), layE_sm _ _ _ _ _ (by omega) (hsm.congr rfl rfl), ?_, ?_⟩ ?_ (by simp [subk, Eng.look]) (List.Sublist.refl _) rfl (subR_refl _)
    · rw [hdr]
      show (layE (env ds bs) (s.forms[i]).2 ((s.forms[i]).1 ++ s.needs[i]) (setTo s i s.ins.length)).ins.length + _ ≤ _
      omega
    · rw [hdr]
      show (layE (env ds bs) (s.forms[i]).2 ((s.forms[i]).1 ++ s.needs[i]) (setTo s i s.ins.length)).infos.length + _ ≤ _
      omega
    · dsimp only
      rw [hdr]
      omega
  rintro ⟨G3, s, i, vi, vn, vq, ri, rn, rq⟩ ⟨hG3, hS, hrun⟩
  dsimp only at hG3 hS hrun ⊢
  refine VC.freezeR (.refl _) fun H1 hH1 hriH => ?_
  refine VC.freezeR (.refl _) fun H2 hH2 hrnH => ?_
  dsimp only at hH1 hriH hH2 hrnH
  obtain ⟨pi, ci, rfl, _, _⟩ := hS.infos.val (by decide) (fun _ _ h => h.len)
  obtain ⟨pn, cn, rfl, _, _⟩ := hS.ins.val (by decide) (fun _ _ h => h.len)
  obtain ⟨pq, cq, rfl, _, _⟩ := hS.queue.val (by decide) (fun _ _ h => h.len)
  have hcomp : ∀ {c : Cd} {e : Int}, (if s.big = true then c = ⟨[], [], [], []⟩ ∧ e = 3 else c = codeOf ds bs s ∧ e = 0) → Compiles ds bs c 0 e := fun h => by
    unfold Compiles
    rw [if_pos he]
    exact ⟨s, hrun, rfl, h⟩
  have h9 : G9.le H2 := PH.le_trans hG3 (PH.le_trans hH1 hH2)
  refine VC.go 100 ?_
  cases hbig : s.big with
  | true =>
    simp only [push_cast, ↓reduceIte, Nat.reduceEqDiff, Nat.reduceAdd, Nat.reduceMul, Nat.reduceSub, Nat.reduceLT, Nat.reduceLeDiff, reduceCtorEq, Nat.reduceMod, Int.reduceEq, Int.reduceLT, Int.reduceLE, Int.reduceToNat, dite_true]
    exact ⟨[_, _, _], [], by simp only [push_cast, ↓reduceIte, Nat.reduceEqDiff, Nat.reduceAdd, Nat.reduceMul, Nat.reduceSub, Nat.reduceLT, Nat.reduceLeDiff, reduceCtorEq, Nat.reduceMod, Int.reduceEq, Int.reduceLT, Int.reduceLE, Int.reduceToNat, dite_true, rvals, rval1], .sub (List.nil_sublist _), rfl, ⟨[], [], [], []⟩, 0, 3, _, _, _, _, rfl, nil_code _, hcomp (by rw [if_pos hbig]; exact ⟨rfl, rfl⟩)⟩
  | false =>
    simp only [push_cast, ↓reduceIte, Nat.reduceEqDiff, Nat.reduceAdd, Nat.reduceMul, Nat.reduceSub, Nat.reduceLT, Nat.reduceLeDiff, reduceCtorEq, Nat.reduceMod, Int.reduceEq, Int.reduceLT, Int.reduceLE, Int.reduceToNat, dite_true]
    refine ⟨[_, _, _], [], by simp only [push_cast, ↓reduceIte, Nat.reduceEqDiff, Nat.reduceAdd, Nat.reduceMul, Nat.reduceSub, Nat.reduceLT, Nat.reduceLeDiff, reduceCtorEq, Nat.reduceMod, Int.reduceEq, Int.reduceLT, Int.reduceLE, Int.reduceToNat, dite_true, rvals, rval1]; rfl, .sub (List.nil_sublist _), rfl, codeOf ds bs s, 0, 0, _, _, _, _, rfl, ⟨?_, ?_, ?_, ?_⟩, hcomp (by rw [if_neg (by rw [hbig]; decide)]; exact ⟨rfl, rfl⟩)⟩
    · exact (hrc.sle (by decide) (fun _ _ h => h.len) hrcG).mono (PH.le_trans (PH.le_trans hG7 hG79) h9) fun _ _ _ h => h
    · exact (hrg.sle (by decide) (fun _ _ h => h.len) hrgG).mono h9 fun _ _ _ h => h
    · exact (hS.infos.sle (by decide) (fun _ _ h => h.len) hriH).mono hH2 fun _ _ _ h => h
    · exact SlE.mono (hS.ins.sle (by decide) (fun _ _ h => h.len) hrnH) (PH.le_refl _) fun _ _ _ h => h.mono (PH.le_trans hH1 hH2)
end Go.Proofs.YtoepmdbicdoieaaDoor.W
