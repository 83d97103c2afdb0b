/- gen: the scheme's state, and its calls. -/
import Derived.Test.YtoepmdbicdoieaaDoorW5
import Derived.Test.YtoepmdbicdoieaaDoorPA
namespace Go.Proofs.YtoepmdbicdoieaaDoor.W
open Go Go.Eng Go.Proofs Go.Proofs.YtoepmdbicdoieaaDoor.T Go.Proofs.YtoepmdbicdoieaaDoor.K Go.Proofs.YtoepmdbicdoieaaDoor.U
set_option linter.unusedSimpArgs false
set_option linter.unusedVariables false
set_option maxRecDepth 100000
set_option maxHeartbeats 4000000
def waits : Nat → List Frm → List (List ByteArray) → List Waits
  | n, f :: fs, d :: ds => (n, f, d) :: waits (n + 1) fs ds
  | _, _, _ => []
theorem waits_snoc (f : Frm) (d : List ByteArray) : ∀ (fs : List Frm) (ds : List (List ByteArray)) (n : Nat), ds.length = fs.length → waits n (fs ++ [f]) (ds ++ [d]) = waits n fs ds ++ [(n + fs.length, f, d)]
  | [], [], n, _ => rfl
  | [], _ :: _, _, h => by simp at h
  | _ :: _, [], _, h => by simp at h
  | x :: fs, y :: ds, n, h => by
    simp only [List.cons_append, waits]
    rw [waits_snoc f d fs ds (n + 1) (by simpa using h), List.length_cons, show n + 1 + fs.length = n + (fs.length + 1) by omega]
theorem waits_len : ∀ (fs : List Frm) (ds : List (List ByteArray)) (n : Nat), ds.length = fs.length → (waits n fs ds).length = fs.length
  | [], [], n, _ => rfl
  | [], _ :: _, _, h => by simp at h
  | _ :: _, [], _, h => by simp at h
  | x :: fs, y :: ds, n, h => by simp only [waits, List.length_cons]; rw [waits_len fs ds (n + 1) (by simpa using h)]
/-- A scheme in memory. -/
structure Sch (F : PH) (sb i : Nat) (s : Sc) (vi vn vq : Value) (ri rn rq : PH) : Prop where
  infos : RowE ri 41 4 RInf vi s.infos
  ins : RowE rn 89 7 (RIns F) vn s.ins
  queue : QRowE rq 1 1 (RQ F sb) vq ((waits 0 s.forms s.needs).drop i)
  e1 : s.forms.length = s.infos.length
  e2 : s.needs.length = s.infos.length
  le : i ≤ s.infos.length
theorem Sch.mono {F G : PH} (hl : F.le G) {sb i : Nat} {s : Sc} {vi vn vq : Value} {ri rn rq : PH} (h : Sch F sb i s vi vn vq ri rn rq) : Sch G sb i s vi vn vq ri rn rq :=
  ⟨h.infos, h.ins.mono fun _ _ _ h => h.mono hl, h.queue.mono fun _ _ _ h => h.mono hl, h.e1, h.e2, h.le⟩
/-- What stands beside it. -/
structure Ctx (F : PH) (C : Env) (vc vg mc mt : Value) : Prop where
  cons : ∃ m, PlcM F mc m ∧ ∀ s, (m s).getD 0 = conD C.ds s
  tops : PlcM F mt (fo C.tops)
  few : C.tops.length ≤ 1000000000
  tab : P.Table F
  c1 : vc.oneCell' = true
  g1 : vg.oneCell' = true
theorem Ctx.mono {F G : PH} (hl : F.le G) {C : Env} {vc vg mc mt : Value} (h : Ctx F C vc vg mc mt) : Ctx G C vc vg mc mt :=
  let ⟨m, h1, h2⟩ := h.cons; ⟨⟨m, h1.mono hl, h2⟩, h.tops.mono hl, h.few, h.tab.mono hl, h.c1, h.g1⟩
theorem PlcM.one {F : PH} {v : Value} {m : ByteArray → Option Int} (h : PlcM F v m) : v.oneCell' = true := by obtain ⟨mb, _, _, _, rfl, _⟩ := h; rfl
theorem Ctx.mc1 {F : PH} {C : Env} {vc vg mc mt : Value} (h : Ctx F C vc vg mc mt) : mc.oneCell' = true := let ⟨_, h1, _⟩ := h.cons; h1.one
theorem Ctx.looks {F : PH} {C : Env} {vc vg mc mt v : Value} {l : List ByteArray} (h : Ctx F C vc vg mc mt) (hp : Plc F v l) : Looks F C mt v l := ⟨h.tops, hp, h.few⟩
theorem Sch.vi1 {F : PH} {sb i : Nat} {s : Sc} {vi vn vq : Value} {ri rn rq : PH} (h : Sch F sb i s vi vn vq ri rn rq) : vi.oneCell' = true := by obtain ⟨_, _, rfl, _⟩ := h.infos.val (by decide) (fun _ _ h => h.len); rfl
theorem Sch.vn1 {F : PH} {sb i : Nat} {s : Sc} {vi vn vq : Value} {ri rn rq : PH} (h : Sch F sb i s vi vn vq ri rn rq) : vn.oneCell' = true := by obtain ⟨_, _, rfl, _⟩ := h.ins.val (by decide) (fun _ _ h => h.len); rfl
theorem Sch.vq1 {F : PH} {sb i : Nat} {s : Sc} {vi vn vq : Value} {ri rn rq : PH} (h : Sch F sb i s vi vn vq ri rn rq) : vq.oneCell' = true := by obtain ⟨_, _, rfl, _⟩ := h.queue.val (by decide) (fun _ _ h => h.len); rfl
/-- A call of a scheme's that comes from one state to another. -/
def SchQ (sb i : Nat) (vc vg mc mt : Value) (s' : Sc) (res : Value → Prop) (v : Value) (F' : PH) (R' : List PH) : Prop := ∃ vi' vn' vq' ri' rn' rq', R' = [cell1 sb 70 (schC vc vg vi' vn' mc mt vq' s'.big), ri', rn', rq'] ∧ Sch F' sb i s' vi' vn' vq' ri' rn' rq' ∧ res v
def SchFn (f : FuncId) (args : List Value) (F : PH) (sb i : Nat) (vc vg mc mt vi vn vq : Value) (ri rn rq : PH) (s s' : Sc) (res : Value → Prop) : Prop :=
  Eng.Fn Tryd.prog f (ptr sb :: args) F [cell1 sb 70 (schC vc vg vi vn mc mt vq s.big), ri, rn, rq] (SchQ sb i vc vg mc mt s' res)
section
variable {S : St} {κ : St → Prop} {d : Option Tmp} {sb i : Nat} {vc vg mc mt vi vn vq : Value} {ri rn rq : PH} {s : Sc} {Re : List PH} {C : Env}
theorem callS {f : FuncId} {args : List Value} {s' : Sc} {res : Value → Prop} {big : Bool} (hbg : big = s.big) (hM : ownF S.M 0 = some ⟨0, sb, 70, schC vc vg vi vn mc mt vq big⟩) (hp : S.R.Perm ([ri, rn, rq] ++ Re)) (hc : SchFn f args S.F sb i vc vg mc mt vi vn vq ri rn rq s s' res)
    (next : ∀ v F' vi' vn' vq' ri' rn' rq', S.F.le F' → Sch F' sb i s' vi' vn' vq' ri' rn' rq' → res v → κ ⟨setk S.L d (.v v), updM S.M 0 (schC vc vg vi' vn' mc mt vq' s'.big), F', [ri', rn', rq'] ++ Re, S.nx⟩) : CallV Tryd.prog false f (ptr sb :: args) d κ S := by
  subst hbg
  refine CallV.ownP (i := 0) (Q' := fun v F' cs' R2 => ∃ vi' vn' vq' ri' rn' rq', cs' = schC vc vg vi' vn' mc mt vq' s'.big ∧ R2 = [ri', rn', rq'] ++ Re ∧ Sch F' sb i s' vi' vn' vq' ri' rn' rq' ∧ res v) hM hp hc ?_ ?_
  · rintro v F' R' _ ⟨vi', vn', vq', ri', rn', rq', rfl, h1, h2⟩
    exact ⟨_, _, _, rfl, .refl _, vi', vn', vq', ri', rn', rq', rfl, rfl, h1, h2⟩
  · rintro v F' cs' R2 hF ⟨vi', vn', vq', ri', rn', rq', rfl, rfl, h1, h2⟩
    exact next v F' vi' vn' vq' ri' rn' rq' hF h1 h2
theorem callPut {x : Ins} {ic : List Value} {big : Bool} (hbg : big = s.big) (hM : ownF S.M 0 = some ⟨0, sb, 70, schC vc vg vi vn mc mt vq big⟩) (hp : S.R.Perm ([ri, rn, rq] ++ Re)) (hC : Ctx S.F C vc vg mc mt) (hS : Sch S.F sb i s vi vn vq ri rn rq) (hx : RIns S.F x ic)
    (hb : s.ins.length ≤ 100000000) (hb1 : 0 ≤ x.b ∧ x.b ≤ 1000000000) (hb2 : x.makes.length ≤ 1000000000)
    (next : ∀ F' vn' rn', S.F.le F' → Sch F' sb i (putS s x) vi vn' vq ri rn' rq → κ ⟨setk S.L d (.v (i64v s.ins.length)), updM S.M 0 (schC vc vg vi vn' mc mt vq (putS s x).big), F', [ri, rn', rq] ++ Re, S.nx⟩) : CallV Tryd.prog false 81 [ptr sb, .agg ic.toArray] d κ S := by
  subst hbg
  refine CallV.ownP (i := 0) (R1 := [rn]) (Rf := [ri, rq] ++ Re) (Q' := fun v F' cs' R2 => ∃ vn' rn', v = i64v s.ins.length ∧ cs' = schC vc vg vi vn' mc mt vq (putS s x).big ∧ R2 = [ri, rn', rq] ++ Re ∧ RowE rn' 89 7 (RIns F') vn' (s.ins ++ [x])) hM (hp.trans (List.Perm.swap _ _ _)) (put S.F sb vc vg vi vn mc mt vq s.big rn s.ins x ic hC.c1 hC.g1 hS.vi1 hC.mc1 hC.tops.one hS.vq1 hx hS.ins hb hb1 hb2) ?_ ?_
  · rintro v F' R' _ ⟨rfl, vn', rn', rfl, h1⟩
    exact ⟨_, _, _, rfl, List.Perm.swap _ _ _, vn', rn', rfl, rfl, rfl, h1⟩
  · rintro v F' cs' R2 hF ⟨vn', rn', rfl, rfl, rfl, h1⟩
    have hS' := hS.mono hF
    exact next F' vn' rn' hF ⟨hS'.infos, h1, hS'.queue, hS'.e1, hS'.e2, hS'.le⟩
theorem callInfo {f : Frm} {need : List ByteArray} {fc : List Value} {vd : Value} {big : Bool} (hbg : big = s.big) (hM : ownF S.M 0 = some ⟨0, sb, 70, schC vc vg vi vn mc mt vq big⟩) (hp : S.R.Perm ([ri, rn, rq] ++ Re)) (hC : Ctx S.F C vc vg mc mt) (hS : Sch S.F sb i s vi vn vq ri rn rq) (hf : RFrm S.F f fc) (hd : Strs S.F vd need)
    (hb : s.infos.length ≤ 100000000)
    (next : ∀ F' vi' vq' ri' rq', S.F.le F' → Sch F' sb i (infoS s f need) vi' vn vq' ri' rn rq' → κ ⟨setk S.L d (.v (i64v s.infos.length)), updM S.M 0 (schC vc vg vi' vn mc mt vq' (infoS s f need).big), F', [ri', rn, rq'] ++ Re, S.nx⟩) : CallV Tryd.prog false 19 [ptr sb, .agg fc.toArray, vd] d κ S := by
  subst hbg
  have hwl := waits_len s.forms s.needs 0 (by rw [hS.e2, hS.e1])
  refine CallV.ownP (i := 0) (R1 := [ri, rq]) (Rf := [rn] ++ Re) (Q' := fun v F' cs' R2 => ∃ vi' vq' ri' rq', v = i64v s.infos.length ∧ cs' = schC vc vg vi' vn mc mt vq' (infoS s f need).big ∧ R2 = [ri', rn, rq'] ++ Re ∧ RowE ri' 41 4 RInf vi' (s.infos ++ [⟨if f.1.length = 0 then 6 else 3, f.1.length, need.length, 0⟩]) ∧ QRowE rq' 1 1 (RQ F' sb) vq' ((waits 0 s.forms s.needs).drop i ++ [(s.infos.length, f, need)])) hM (hp.trans (.cons _ (List.Perm.swap _ _ _))) (info S.F sb vc vg vi vn mc mt vq s.big ri rq s.infos _ f need fc vd hC.c1 hC.g1 hS.vn1 hC.mc1 hC.tops.one hf hd hS.infos hS.queue hb (by rw [List.length_drop, hwl, hS.e1]; omega)) ?_ ?_
  · rintro v F' R' _ ⟨rfl, vi', vq', ri', rq', rfl, h1, h2⟩
    exact ⟨_, _, _, rfl, .cons _ (List.Perm.swap _ _ _), vi', vq', ri', rq', rfl, rfl, rfl, h1, h2⟩
  · rintro v F' cs' R2 hF ⟨vi', vq', ri', rq', rfl, rfl, rfl, h1, h2⟩
    have hS' := hS.mono hF
    refine next F' vi' vq' ri' rq' hF ⟨h1, hS'.ins, ?_, by simp [infoS, hS.e1], by simp [infoS, hS.e2], by simp [infoS]; have := hS.le; omega⟩
    have e : waits 0 (infoS s f need).forms (infoS s f need).needs = waits 0 s.forms s.needs ++ [(s.infos.length, f, need)] := by
      show waits 0 (s.forms ++ [f]) (s.needs ++ [need]) = _
      rw [waits_snoc f need s.forms s.needs 0 (by rw [hS.e2, hS.e1]), Nat.zero_add, hS.e1]
    rw [e, List.drop_append_of_le_length (by rw [hwl, hS.e1]; exact hS.le)]
    exact h2
theorem Row.ints {r F : PH} {e : TypeId} {v : Value} {l : List Int} (h : Row r e 1 v (l.map i64v)) (hl : r.le F) : Ints F v l := by
  obtain ⟨m, h1, h2⟩ := h.sl hl
  obtain rfl : m = l.length := by simpa using h1.symm
  exact h2
theorem callAtoms {st : Bool} {lv v : Value} {ats : List (ByteArray × Int)} {l : List ByteArray} {frm : Nat} {big : Bool} (hM : ownF S.M 0 = some ⟨0, sb, 70, schC vc vg vi vn mc mt vq big⟩) (hC : Ctx S.F C vc vg mc mt) (hn : Sl S.F 2 lv ats.length (atomVals ats)) (hp : Plc S.F v l) (hk : KnownA C l ats) (hb : ats.length ≤ 100000000) (hf : frm ≤ 1000000000)
    (next : ∀ r F', S.F.le F' → Ints F' r (atomsP C l ats frm) → κ ⟨setk S.L d (.v r), S.M, F', S.R, S.nx⟩) : CallV Tryd.prog st 83 [ptr sb, lv, v, i64v frm] d κ S := by
  have h1 := atoms S.F C sb vc vg vi vn mc mt vq big lv v ats frm l hn (hC.looks hp) hk hb hf
  have h2 := Eng.Fn.frozen (Q' := fun r F' R' => R' = [cell1 sb 70 (schC vc vg vi vn mc mt vq big)] ∧ Ints F' r (atomsP C l ats frm)) h1 fun r F' R' ⟨r', e, hr⟩ => ⟨r', [cell1 sb 70 (schC vc vg vi vn mc mt vq big)], by rw [e]; exact List.Perm.swap _ _ _, fun F'' k1 k2 => ⟨rfl, Row.ints hr k2⟩⟩
  refine CallV.lookP (i := 0) (R1 := []) (Rf := S.R) (Q' := fun r F' R2 => R2 = S.R ∧ Ints F' r (atomsP C l ats frm)) hM (.refl _) h2 ?_ ?_
  · rintro r F' R' _ ⟨rfl, h1⟩
    exact ⟨_, _, rfl, .refl _, rfl, h1⟩
  · rintro r F' R2 hF ⟨rfl, h1⟩
    exact next r F' hF h1
theorem callAll {st : Bool} {lv v : Value} {names l : List ByteArray} {big : Bool} (hM : ownF S.M 0 = some ⟨0, sb, 70, schC vc vg vi vn mc mt vq big⟩) (hC : Ctx S.F C vc vg mc mt) (hn : Strs S.F lv names) (hp : Plc S.F v l) (hk : ∀ s ∈ names, Known C l s) (hb : names.length ≤ 100000000)
    (next : ∀ r F', S.F.le F' → Ints F' r (names.map (place C l)) → κ ⟨setk S.L d (.v r), S.M, F', S.R, S.nx⟩) : CallV Tryd.prog st 114 [ptr sb, lv, v] d κ S := by
  have h1 := all S.F C sb vc vg vi vn mc mt vq big lv v names l hn (hC.looks hp) hk hb
  have h2 := Eng.Fn.frozen (Q' := fun r F' R' => R' = [cell1 sb 70 (schC vc vg vi vn mc mt vq big)] ∧ Ints F' r (names.map (place C l))) h1 fun r F' R' ⟨r', e, hr⟩ => ⟨r', [cell1 sb 70 (schC vc vg vi vn mc mt vq big)], by rw [e]; exact List.Perm.swap _ _ _, fun F'' k1 k2 => ⟨rfl, Row.ints hr k2⟩⟩
  refine CallV.lookP (i := 0) (R1 := []) (Rf := S.R) (Q' := fun r F' R2 => R2 = S.R ∧ Ints F' r (names.map (place C l))) hM (.refl _) h2 ?_ ?_
  · rintro r F' R' _ ⟨rfl, h1⟩
    exact ⟨_, _, rfl, .refl _, rfl, h1⟩
  · rintro r F' R2 hF ⟨rfl, h1⟩
    exact next r F' hF h1
theorem callPlace {st : Bool} {v : Value} {n : ByteArray} {l : List ByteArray} {big : Bool} (hM : ownF S.M 0 = some ⟨0, sb, 70, schC vc vg vi vn mc mt vq big⟩) (hC : Ctx S.F C vc vg mc mt) (hp : Plc S.F v l) (hk : Known C l n)
    (next : ∀ F', S.F.le F' → κ ⟨setk S.L d (.v (i64v (place C l n))), S.M, F', S.R, S.nx⟩) : CallV Tryd.prog st 85 [ptr sb, .string n, v] d κ S := by
  refine CallV.lookP (i := 0) (R1 := []) (Rf := S.R) (Q' := fun r F' R2 => R2 = S.R ∧ r = i64v (place C l n)) hM (.refl _) (placeF S.F C sb vc vg vi vn mc mt vq big v l n hp hC.tops hk.1 hk.2 hC.few) ?_ ?_
  · rintro r F' R' _ ⟨cs', rfl, rfl, rfl⟩
    exact ⟨_, _, rfl, .refl _, rfl, rfl⟩
  · rintro r F' R2 hF ⟨rfl, rfl⟩
    exact next F' hF
/-- The numbers of atoms, as a row. -/
theorem callNums {st : Bool} {lv : Value} {ats : List (ByteArray × Int)} (hn : Sl S.F 2 lv ats.length (atomVals ats)) (hb : ats.length ≤ 100000000)
    (next : ∀ r F' r', S.F.le F' → RowE r' 85 4 (RMk F') r (nums ats) → κ ⟨setk S.L d (.v r), S.M, F', r' :: S.R, S.nx⟩) : CallV Tryd.prog st 82 [lv] d κ S :=
  CallV.gen (R1 := []) (.refl _) (numbers S.F lv ats hn hb) fun v F' R' hF ⟨r', e, h1⟩ => by subst e; exact next v F' r' hF h1
end
theorem sle_one {α : Type} {F : PH} {sz : Nat} {R : α → List Value → Prop} {a : α} {b : Nat} {cs : List Value} {e : TypeId} (h : F b = some (.cells cs.toArray e (0, 0))) (hl : cs.length = sz) (hR : R a cs) : SlE F sz R (.slice (some ⟨b, 0, none⟩) 1 1) [a] :=
  ⟨cs, ⟨_, _, rfl, Nat.le_refl _, by decide, src_one h hl⟩, cs, [], by simp, hR, rfl⟩
end Go.Proofs.YtoepmdbicdoieaaDoor.W
