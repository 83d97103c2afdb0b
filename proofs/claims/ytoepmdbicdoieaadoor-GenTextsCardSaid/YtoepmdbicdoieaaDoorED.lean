/- My texts E14 E15 E16 E17 E18 E19, in one. -/
import Derived.Test.YtoepmdbicdoieaaDoorEC
import Derived.MapKept
import Derived.Carry
import Derived.ArgAppend
import Derived.Scope
import Derived.Laws.MakeOwn
import Derived.Maps.RangeRun
/- The engine, part 14: blocks of the call's own that are lent to a call, and come back changed. -/
namespace Go.Eng
open Go Go.RowKit
set_option linter.unusedSimpArgs false
set_option linter.unusedVariables false
/-- A block that is lent. -/
abbrev cell1 (b : Nat) (t : TypeId) (cs : List Value) : PH := PH.one b (.cells cs.toArray t (0, 0))
theorem PH.one_self (b : Nat) (o : Obj) : PH.one b o b = some o := by simp [PH.one]
/-- What is lent is the call's own from now on. -/
theorem Sat.fromR {B : Base} {S : St} {w : World} (hw : Sat B S w) {b : Nat} {t : TypeId} {cs : List Value} {Rf : List PH} (hR : S.R = cell1 b t cs :: Rf) (L : KL) (i nx : Nat) : Sat B ⟨L, ⟨i, b, t, cs⟩ :: S.M, S.F, Rf, nx⟩ w := by
  obtain ⟨r1, r2, r3⟩ := hw.r (cell1 b t cs) (by rw [hR]; exact List.mem_cons_self)
  have hrr := hw.rr
  rw [hR, List.pairwise_cons] at hrr
  have hs : cell1 b t cs b = some (.cells cs.toArray t (0, 0)) := PH.one_self _ _
  have hn : cell1 b t cs b ≠ none := by rw [hs]; exact fun h => nomatch h
  refine ⟨hw.f, fun o ho => ?_, List.pairwise_cons.2 ⟨fun o ho e => ?_, hw.mm⟩, fun r hr => hw.r r (by rw [hR]; exact List.mem_cons_of_mem _ hr), hrr.2, hw.late, hw.f0, hw.fnew⟩
  · rcases List.mem_cons.1 ho with rfl | ho
    · refine ⟨r1 b _ hs, ?_, fun r hr => ?_, r3 b hn⟩
      · rcases r2 b with h | h
        · exact h
        · exact absurd h hn
      · rcases hrr.1 r hr b with h | h
        · exact absurd h hn
        · exact h
    · obtain ⟨m1, m2, m3, m4⟩ := hw.m o ho
      exact ⟨m1, m2, fun r hr => m3 r (by rw [hR]; exact List.mem_cons_of_mem _ hr), m4⟩
  · have := (hw.m o ho).2.2.1 (cell1 b t cs) (by rw [hR]; exact List.mem_cons_self)
    have e : b = o.b := e
    rw [← e] at this
    exact hn this
theorem own_split : ∀ {M : List Own} {i : Nat} {m : Own}, ownF M i = some m → ∃ M', M.Perm (m :: M') ∧ ∀ cs, (updM M i cs).Perm ({ m with cs := cs } :: M')
  | [], _, _, h => by cases h
  | x :: M, i, m, h => by
    simp only [ownF] at h
    split at h
    · rename_i e
      cases h
      exact ⟨M, .refl _, fun cs => by simp only [updM, if_pos e]; exact .refl _⟩
    · rename_i e
      obtain ⟨M', h1, h2⟩ := own_split h
      refine ⟨x :: M', (h1.cons x).trans (.swap _ _ _), fun cs => ?_⟩
      simp only [updM, if_neg e]
      exact ((h2 cs).cons x).trans (.swap _ _ _)
section
variable {P : Program} {n : Nat} {C : Cx} {k : List KItem} {S : St} {κ : St → Prop} {f : FuncId} {args : List Value} {d : Option Tmp}
theorem Shift.toR {m : Own} {M : List Own} (hm : S.M.Perm (m :: M)) (L : KL) (nx : Nat) : Shift S ⟨L, M, S.F, cell1 m.b m.t m.cs :: S.R, nx⟩ :=
  fun _ _ hs => (hs.permM hm).toR rfl L nx
theorem Shift.fromR {b : Nat} {t : TypeId} {cs : List Value} {Rf : List PH} {M : List Own} (i : Nat) (hR : S.R.Perm (cell1 b t cs :: Rf)) (hM : (⟨i, b, t, cs⟩ :: S.M).Perm M) (L : KL) (nx : Nat) : Shift S ⟨L, M, S.F, Rf, nx⟩ :=
  fun _ _ hs => (((hs.permR hR).fromR rfl L i nx).permM hM)
theorem VC.fromR {b : Nat} {t : TypeId} {cs : List Value} {Rf : List PH} (i : Nat) (hR : S.R.Perm (cell1 b t cs :: Rf)) (h : VC P n C k ⟨S.L, ⟨i, b, t, cs⟩ :: S.M, S.F, Rf, S.nx⟩) : VC P n C k S :=
  fun a w ha hw => h a w ha (Shift.fromR i hR (.refl _) _ _ _ _ hw)
/-- A contract to which one block is lent. -/
def OFn (P : Program) (f : FuncId) (args : List Value) (F : PH) (b : Nat) (t : TypeId) (cs : List Value) (Q : Value → PH → List Value → Prop) : Prop :=
  Fn P f args F [cell1 b t cs] (fun v F' R' => ∃ cs', R' = [cell1 b t cs'] ∧ Q v F' cs')
theorem OFn.mono {F : PH} {b : Nat} {t : TypeId} {cs : List Value} {Q Q' : Value → PH → List Value → Prop} (h : OFn P f args F b t cs Q) (hq : ∀ v F' cs', F.le F' → Q v F' cs' → Q' v F' cs') : OFn P f args F b t cs Q' :=
  Fn.mono h fun v F' R' hF ⟨cs', e, q⟩ => ⟨cs', e, hq v F' cs' hF q⟩
/-- A call to which a block of the call's own is lent. -/
theorem CallV.own {i : Nat} {m : Own} {Q : Value → PH → List Value → Prop} (hM : ownF S.M i = some m) (hc : OFn P f args S.F m.b m.t m.cs Q)
    (next : ∀ v F' cs', S.F.le F' → Q v F' cs' → κ ⟨setk S.L d (.v v), updM S.M i cs', F', S.R, S.nx⟩) : CallV P false f args d κ S := by
  obtain ⟨M', hp, hu⟩ := own_split hM
  refine ⟨_, ⟨[], M', S.F, cell1 m.b m.t m.cs :: S.R, 0⟩, [cell1 m.b m.t m.cs], S.R, .toR hp _ _, hc, .refl _, ?_⟩
  rintro v F' R' hF ⟨cs', rfl, q⟩
  exact ⟨_, rfl, Shift.fromR m.i (.refl _) (hu cs').symm _ _, fun h => (nomatch h), next v F' cs' hF q⟩
theorem RetR.own {i : Nat} {m : Own} (hM : ownF S.M i = some m) : RetR S (cell1 m.b m.t m.cs :: S.R) := by
  obtain ⟨M', hp, _⟩ := own_split hM
  exact fun _ _ hs => ((Shift.toR hp [] 0) _ _ hs).weaken ⟨(fun _ _ h => nomatch h), List.nil_sublist _, rfl, List.Sublist.refl _⟩
theorem RetR.two {m1 m2 : Own} {L : KL} {M : List Own} {F : PH} {R : List PH} {nx : Nat} : RetR ⟨L, m1 :: m2 :: M, F, R, nx⟩ (cell1 m1.b m1.t m1.cs :: cell1 m2.b m2.t m2.cs :: R) := fun _ _ hs => by
  have h1 := Shift.toR (S := ⟨L, m1 :: m2 :: M, F, R, nx⟩) (List.Perm.swap _ _ _) L nx _ _ hs
  have h2 := Shift.toR (S := ⟨L, m1 :: M, F, _, nx⟩) (List.Perm.refl _) L nx _ _ h1
  exact h2.weaken ⟨(fun _ _ h => nomatch h), List.nil_sublist _, rfl, List.Sublist.refl _⟩
/-- The end of a walk to which one block was lent. -/
theorem RetOk.own {ts : List ResultVar} {vs : List Value} {m : Own} {L : KL} {M : List Own} {F : PH} {nx : Nat} {Q : Value → PH → List Value → Prop} (i : Nat) (hv : rvals P ⟨L, M, F, [], nx⟩ ts = some vs) (hM : ownF M i = some m) (q : Q (rval vs) F m.cs) :
    RetOk P ts (fun v F' R' => ∃ cs', R' = [cell1 m.b m.t cs'] ∧ Q v F' cs') ⟨L, M, F, [], nx⟩ :=
  ⟨vs, _, hv, RetR.own (S := ⟨L, M, F, [], nx⟩) hM, m.cs, rfl, q⟩
/-- The walk of a function whose first argument is the address of a block that is lent to it. -/
theorem OFn.intro {fn : Func} {c : Code} {F : PH} {b : Nat} {t : TypeId} {cs : List Value} {Q : Value → PH → List Value → Prop} {ts : List ResultVar} (hf : P.funcs[f]? = some fn) (hb : fn.body = some c) (hn : (fn.name == "runtime.NumGoroutine") = false)
    (hr : fn.results = ts.toArray) (hnt : fn.ntmps = n) (hl : args.length + 1 ≤ n)
    (h : ∀ B : Base, B.F = F → VC P n (retC P n B ts (fun v F' R' => ∃ cs', R' = [cell1 b t cs'] ∧ Q v F' cs')) [.code c] ⟨(0, .o 0 b 0) :: initL 1 args, [⟨0, b, t, cs⟩], F, [], 1⟩) : OFn P f (.pointer (some ⟨b, 0, none⟩) :: args) F b t cs Q := by
  refine Fn.intro hf hb hn hr hnt (by simpa using hl) fun B hB => ?_
  refine VC.fromR 0 (.refl _) (VC.reL ((0, .o 0 b 0) :: initL 1 args) ?_ ?_)
  · have key : ∀ (l : List Value) (i : Nat) (L : KL), (∀ d x, look (initL i l) d = some x → look L d = some x) → subv L (initL i l) := by
      intro l
      induction l with
      | nil => intro i L _; trivial
      | cons v l ih =>
        intro i L h
        refine ⟨?_, ih (i + 1) L fun d x hx => h d x ?_⟩
        · rw [h i (.v v) (by simp [initL, look])]
        · simp only [initL, look]
          split
          · rename_i e
            subst e
            obtain ⟨j, h1, _⟩ := initL_look l (i + 1) i x hx
            omega
          · exact hx
    refine ⟨by simp [initL, look], key args 1 _ fun d x hx => ?_⟩
    have : look (initL 0 (.pointer (some ⟨b, 0, none⟩) :: args)) d = some x := by
      simp only [initL, look]
      split
      · rename_i e
        subst e
        obtain ⟨j, h1, _⟩ := initL_look args 1 0 x hx
        omega
      · exact hx
    exact this
  · exact fun a w ha hw => h B hB a w ha (hw.setL _ _)
/-- Loops in which blocks of the call's own turn. -/
theorem VC.loopM {ι : Type} {c : Code} (L : ι → KL) (M : ι → List Own) (F : ι → PH) (I : ι → Prop) (μ : ι → Nat) (i0 : ι) (h0 : I i0) (hs : subk S.L (L i0)) (hM : (M i0).Sublist S.M) (hF : F i0 = S.F)
    (round : ∀ i, I i → ∀ G : St → Prop, (∀ j S', I j → μ j < μ i → subk S'.L (L j) → (M j).Sublist S'.M → S'.F = F j → S'.R = S.R → G S') → VC P n C (.code c :: .done G :: k) ⟨L i, M i, F i, S.R, S.nx⟩) : VC P n C (.code (.loop c) :: k) S :=
  VC.loop (fun i => ⟨L i, M i, F i, S.R, S.nx⟩) I μ i0 h0 ⟨subk_le hs, hM, hF, List.Sublist.refl _⟩ fun i hi G hG =>
    round i hi G fun j S' h1 h2 h3 h4 h5 h6 => hG j S' h1 h2 ⟨subk_le h3, h4, h5.symm, by rw [h6]; exact List.Sublist.refl _⟩
/-- A cut behind a piece of code in which blocks of the call's own turn. -/
theorem VC.cutM {ι : Type} {c : Code} (L : ι → KL) (M : ι → List Own) (F : ι → PH) (I : ι → Prop) (hx : ∀ G : St → Prop, (∀ j S', I j → subk S'.L (L j) → (M j).Sublist S'.M → S'.F = F j → S'.R = S.R → G S') → VC P n C (.code c :: .done G :: k) S)
    (hk : ∀ i, I i → VC P n C k ⟨L i, M i, F i, S.R, S.nx⟩) : VC P n C (.code c :: k) S :=
  VC.cut (fun i => ⟨L i, M i, F i, S.R, S.nx⟩) I (fun G hG => hx G fun j S' h1 h3 h4 h5 h6 => hG j S' h1 ⟨subk_le h3, h4, h5.symm, by rw [h6]; exact List.Sublist.refl _⟩) hk
end
end Go.Eng

/- The engine, part 15: maps whose keys are integers or texts. -/
namespace Go.Eng
open Go Go.RowKit
set_option linter.unusedSimpArgs false
set_option linter.unusedVariables false
/-- A key's kind: how it is a value. -/
structure KeyOk {α : Type} [DecidableEq α] (kind : TypeDesc) (k : α → Value) : Prop where
  same : ∀ a b, Instr.sameNow kind (k a) (k b) = some (decide (a = b))
  key : ∀ a, MapKept.IsKey kind (k a)
  bits : ∀ a, Instr.sameBits 10000 (k a) (k a) = true
theorem keyStr : KeyOk .string Value.string where
  same a b := by
    simp only [Instr.sameNow]
    congr 1
    cases h : a == b with
    | true => simp [(MapKept.bytes_beq a b).1 h]
    | false =>
      have : ¬ a = b := fun e => by rw [(MapKept.bytes_beq a b).2 e] at h; cases h
      simp [this]
  key a := trivial
  bits a := by simp only [Instr.sameBits]; exact (MapKept.bytes_beq a a).2 rfl
/-- The entries, as a list of keys and values. -/
def MapAs {α : Type} (k : α → Value) (es : Array MapEntry) (l : List (α × Value)) : Prop := es.toList.map (fun e => (e.key, e.val)) = l.map (fun p => (k p.1, p.2))
def mget {α : Type} [DecidableEq α] : List (α × Value) → α → Option Value
  | [], _ => none
  | p :: l, a => if p.1 = a then some p.2 else mget l a
def mput {α : Type} [DecidableEq α] : List (α × Value) → α → Value → List (α × Value)
  | [], a, v => [(a, v)]
  | p :: l, a, v => if p.1 = a then (a, v) :: l else p :: mput l a v
theorem mget_mput {α : Type} [DecidableEq α] (l : List (α × Value)) (a b : α) (v : Value) : mget (mput l a v) b = if a = b then some v else mget l b := by
  induction l with
  | nil => simp [mput, mget]
  | cons p l ih =>
    simp only [mput]
    split
    · rename_i h
      simp only [mget]
      split
      · rfl
      · rename_i h2; rw [if_neg (fun e => h2 (h.symm ▸ e)), ]
    · rename_i h
      simp only [mget, ih]
      split
      · rename_i h2
        rw [if_neg (fun e => h (h2.trans e.symm))]
      · rfl
theorem mapAs_nil {α : Type} (k : α → Value) : MapAs k #[] [] := rfl
section
variable {α : Type} [DecidableEq α] {kind : TypeDesc} {k : α → Value}
theorem find_as (hk : KeyOk kind k) (a : α) : ∀ (L : List MapEntry) (l : List (α × Value)) (i : Nat), L.map (fun e => (e.key, e.val)) = l.map (fun p => (k p.1, p.2)) →
    (mget l a = none ∧ Instr.findNow kind (k a) L i = some none ∧ ∀ v, mput l a v = l ++ [(a, v)]) ∨
    ∃ j v e, mget l a = some v ∧ Instr.findNow kind (k a) L i = some (some (i + j, v)) ∧ L[j]? = some e ∧ e.key = k a ∧ ∀ v', (L.modify j (fun e => { e with key := k a, val := v' })).map (fun e => (e.key, e.val)) = (mput l a v').map (fun p => (k p.1, p.2))
  | [], [], i, _ => .inl ⟨rfl, rfl, fun _ => rfl⟩
  | [], _ :: _, i, h => by cases h
  | _ :: _, [], i, h => by cases h
  | e :: L, p :: l, i, h => by
    simp only [List.map_cons, List.cons.injEq, Prod.mk.injEq] at h
    obtain ⟨⟨h1, h2⟩, h3⟩ := h
    by_cases hp : p.1 = a
    · refine .inr ⟨0, p.2, e, by simp [mget, hp], ?_, rfl, by rw [h1, hp], fun v' => ?_⟩
      · simp [Instr.findNow, h1, hp, hk.same, h2]
      · simp [mput, hp, h3]
    · have hne : decide (a = p.1) = false := by simp [Ne.symm hp]
      rcases find_as hk a L l (i + 1) h3 with ⟨g1, g2, g3⟩ | ⟨j, v, e', g1, g2, g3, g4, g5⟩
      · exact .inl ⟨by simp [mget, hp, g1], by simp [Instr.findNow, h1, hk.same, hne, g2], fun v => by simp [mput, hp, g3]⟩
      · refine .inr ⟨j + 1, v, e', by simp [mget, hp, g1], ?_, by simpa using g3, g4, fun v' => ?_⟩
        · simp [Instr.findNow, h1, hk.same, hne, g2]; omega
        · simp [mput, hp, h1, h2, g5]
variable {P : Program} {n : Nat} {S : St} {o : Oper} {B : Base} {st : Bool} {κ : St → Prop}
theorem Eff.makeMap {t : TypeId} (ho : o.op = .makeMap t none) (h : ∀ b, κ ⟨setk S.L o.dst (.v (.map (some b))), S.M, S.F, PH.one b (.map #[] 0) :: S.R, S.nx⟩) : Eff P n B st o S κ := by
  refine Eff.value fun a w hka hw => ⟨.v (.map (some w.heap.size)), w.alloc (.map #[] 0), S.M, S.F, _, S.nx, ?_, ?_, Stab.refl _ _ _ _, h w.heap.size⟩
  · obtain ⟨dst, op, type, pos, after, guard⟩ := o
    subst ho
    exact run_value' (by rfl) (run_makeMap (P := P) t w)
  · have hR := hw.emp.swapR (r := PH.emp) (r' := PH.one w.heap.size (.map #[] 0)) (Rf := S.R) (w' := w.alloc (.map #[] 0)) (List.Perm.refl _) rfl rfl rfl (by simp) (fun b hb _ => Below.heap_alloc w _ b hb) (fun b u e => by
        simp only [PH.one] at e
        split at e
        · rename_i hb; cases e; subst hb; exact (MapKept.heap_alloc w _).1
        · cases e) (fun b hb => by
        right
        by_cases e : b = w.heap.size
        · omega
        · simp [PH.one, e] at hb) S.L S.nx
    exact hR
/-- A map that is known: it never turns, or it is lent. -/
def MAt (S : St) (b : Nat) (es : Array MapEntry) (c : Nat) : Prop := S.F b = some (.map es c) ∨ ∃ r ∈ S.R, r b = some (.map es c)
theorem MAt.heap {b : Nat} {es : Array MapEntry} {c : Nat} (h : MAt S b es c) {w : World} (hw : Sat B S w) : w.heap[b]? = some (.map es c) := by
  rcases h with h | ⟨r, hr, h⟩
  · exact hw.f b _ h
  · exact (hw.r r hr).1 b _ h
theorem Eff.lookup {t kt et : TypeId} {u D : TD} {x i : Operand} {ck : Bool} {b c : Nat} {es : Array MapEntry} {l : List (α × Value)} {a : α} (hk : KeyOk kind k) (ho : o.op = .lookup t x i ck) (ht : ty P t = some u) (hu : u.d = .map kt et) (hkt : P.underlying kt = some kind) (hD : ty P et = some D)
    (hx : evo S.L x = some (.v (.map (some b)))) (hi : evo S.L i = some (.v (k a))) (hm : MAt S b es c) (hes : MapAs k es l)
    (h : κ { S with L := setk S.L o.dst (.v (if ck then .tuple #[(mget l a).getD D.zero, .bool (mget l a).isSome] else (mget l a).getD D.zero)) }) : Eff P n B st o S κ := by
  refine Eff.value fun ac w hka hw => ⟨_, w, S.M, S.F, S.R, S.nx, ?_, hw, Stab.refl _ _ _ _, h⟩
  obtain ⟨dst, op, type, pos, after, guard⟩ := o
  subst ho
  have hmap : P.underlying t = some (.map kt et) := by have := ty_underlying (w := w) ht; rw [hu] at this; have h2 := (ty_some ht).1; rw [hu] at h2; exact h2
  have hc := MapKept.run_checkKey (w := w) hkt (hk.key a) es.isEmpty 9999
  have hg := MapKept.run_getObj_map (P := P) (hm.heap hw)
  refine run_value (s := Instr.lookup t (ac.eval x) (ac.eval i) ck) rfl ?_
  rw [hka.eval hx, hka.eval hi]
  simp only [AV.val_v, Instr.lookup, Sem.run_bind, run_underlying hmap, Result.andThen_ok, hg, Sem.run_pure, hc]
  rcases find_as hk a es.toList l 0 hes with ⟨g1, g2, _⟩ | ⟨j, v, e, g1, g2, _⟩
  · rw [MapKept.run_findKey hkt g2, g1]
    simp only [Result.andThen_ok, Sem.run_bind, ty_zero hD, Sem.run_pure, Option.getD_none, Option.isSome_none]
  · rw [MapKept.run_findKey hkt g2, g1]
    simp only [Result.andThen_ok, Sem.run_pure, Option.getD_some, Option.isSome_some]
    cases ck <;> rfl
theorem Eff.update {t kt et : TypeId} {u : TD} {x i y : Operand} {b c : Nat} {es : Array MapEntry} {l : List (α × Value)} {a : α} {v : AV} {Rf : List PH} (hk : KeyOk kind k) (hd : o.dst = none) (ho : o.op = .mapUpdate t x i y) (ht : ty P t = some u) (hu : u.d = .map kt et) (hkt : P.underlying kt = some kind)
    (hx : evo S.L x = some (.v (.map (some b)))) (hi : evo S.L i = some (.v (k a))) (hy : evo S.L y = some v) (hR : S.R.Perm (PH.one b (.map es c) :: Rf)) (hes : MapAs k es l)
    (h : ∀ es' c', MapAs k es' (mput l a v.val) → κ ⟨S.L, S.M, S.F, PH.one b (.map es' c') :: Rf, S.nx⟩) : Eff P n B st o S κ := by
  intro ac w hka hw K Q hK
  obtain ⟨dst, op, type, pos, after, guard⟩ := o
  subst ho
  subst hd
  have hb : w.heap[b]? = some (.map es c) := (hw.r _ (hR.mem_iff.2 List.mem_cons_self)).1 b _ (PH.one_self _ _)
  have hmap : P.underlying t = some (.map kt et) := by have h2 := (ty_some ht).1; rw [hu] at h2; exact h2
  have hc := MapKept.run_checkKey (w := w) hkt (hk.key a) false 9999
  have hg := MapKept.run_getObj_map (P := P) hb
  have key : ∃ es' c', MapAs k es' (mput l a v.val) ∧ (Instr.mapUpdate t (.map (some b)) (k a) v.val).run P w = .ok () { w with heap := w.heap.setIfInBounds b (.map es' c') } := by
    rcases find_as hk a es.toList l 0 hes with ⟨g1, g2, g3⟩ | ⟨j, v0, e, g1, g2, g3, g4, g5⟩
    · refine ⟨es.push { key := k a, val := v.val, born := c }, c + 1, ?_, ?_⟩
      · unfold MapAs at hes ⊢
        rw [g3, Array.toList_push, List.map_append, List.map_append, hes]
        rfl
      · simp only [Instr.mapUpdate, Sem.run_bind, run_underlying hmap, Result.andThen_ok, hg, hc, MapKept.run_findKey hkt g2, MapKept.run_setObj_map _ hb]
    · refine ⟨es.modify j (fun e => { e with key := k a, val := v.val }), c, ?_, ?_⟩
      · unfold MapAs
        rw [Array.toList_modify]
        exact g5 v.val
      · have hge : es[0 + j]? = some e := by rw [Nat.zero_add, ← Array.getElem?_toList]; exact g3
        simp only [Instr.mapUpdate, Sem.run_bind, run_underlying hmap, Result.andThen_ok, hg, hc, MapKept.run_findKey hkt g2]
        rw [hge]
        simp only [Option.map_some, Option.getD_some, g4, Instr.keyThatStays, hk.bits a, if_true, Sem.run_pure, Result.andThen_ok, MapKept.run_setObj_map _ hb, Nat.zero_add]
  obtain ⟨es', c', k1, k2⟩ := key
  have e : execOp ac.eval ⟨none, .mapUpdate t x i y, type, pos, after, guard⟩ = (do Instr.mapUpdate t (ac.eval x) (ac.eval i) (ac.eval y); pure .skip) := rfl
  unfold Oper.wp
  rw [e, hka.eval hx, hka.eval hi, hka.eval hy]
  simp only [AV.val_v, Sem.run_bind, k2, Result.andThen_ok, Sem.run_pure, Oper.upon_skip]
  have hs := MapKept.heap_set (o' := .map es' c') hb
  refine hK (.v undef) _ ⟨S.L, S.M, S.F, PH.one b (.map es' c') :: Rf, S.nx⟩ rfl ?_ (fun _ _ => Stab.refl _ _ _ _) (h es' c' k1)
  refine hw.swapR (w' := { w with heap := w.heap.setIfInBounds b (.map es' c') }) hR rfl rfl rfl (by simp) (fun b' hb' hn => hs.2 b' (fun e => ?_)) (fun b' u' e => ?_) (fun b' hb' => .inl fun e => ?_) S.L S.nx
  · subst e; rw [PH.one_self] at hn; cases hn
  · simp only [PH.one] at e
    split at e
    · rename_i hbb; cases e; subst hbb; exact hs.1
    · cases e
  · by_cases hbb : b' = b
    · subst hbb; rw [PH.one_self] at e; cases e
    · simp [PH.one, hbb] at hb'
end
end Go.Eng

/- The engine, part 16: append to a full slice that never turns: it is laid anew. -/
namespace Go.Eng
open Go Go.RowKit
set_option linter.unusedSimpArgs false
set_option linter.unusedVariables false
section
variable {P : Program} {n : Nat} {S : St} {o : Oper} {B : Base} {st : Bool} {κ : St → Prop}
theorem Src.cellw {F : PH} {p : Option Addr} {k : Nat} {ys : List Value} {a : Addr} (h : Src F p k ys) (hp : p = some a) {w : World} (hF : F.In w) : ∀ j u, ys[j]? = some u → w.cell? (a.add j) = some u := by
  intro j u hj
  have hlt : j < ys.length := by
    rcases Nat.lt_or_ge j ys.length with h' | h'
    · exact h'
    · rw [List.getElem?_eq_none h'] at hj; cases hj
  obtain ⟨a', h1, h2⟩ := h.2 (by rw [← h.1]; omega)
  rw [hp] at h1
  cases h1
  exact hF.cell ((PH.cells_get h2).2 j u hj)
end
end Go.Eng

/- The engine, part 17: scopes and labels; slices that are made; rows that become blocks of the call's own, and back. -/
namespace Go.Eng
open Go Go.RowKit
set_option linter.unusedSimpArgs false
set_option linter.unusedVariables false
section
variable {P : Program} {n : Nat} {C : Cx} {k : List KItem} {S : St} {o : Oper} {B : Base} {st : Bool} {κ : St → Prop}
theorem VC.scope {c : Code} (h : VC P n C (.code c :: k) S) : VC P n C (.code (.scope c) :: k) S := fun a w ha hw =>
  wp_scope_straight (wp_mono (h a w ha hw) fun e a w q => by cases e <;> exact q)
end
/-- A row of the call's own, as a block of its own. -/
theorem Row.cells {r : PH} {e : TypeId} {sz : Nat} {p : Addr} {m c : Nat} {xs : List Value} (h : Row r e sz (.slice (some p) m c) xs) : ∃ g cs, p = ⟨g, 0, none⟩ ∧ r = cell1 g e cs ∧ cs.length = c * sz ∧ m ≤ c ∧ c ≤ maxLen ∧ cs.take (m * sz) = xs ∧ xs.length = m * sz := by
  rcases h with ⟨e1, _⟩ | ⟨g, m', cap, cur, e1, h1, rfl, h2, h3, h4, h5⟩
  · cases e1
  · cases e1
    exact ⟨g, cur.toList, rfl, by simp [cell1], by simp [h4], h2, h3, h5, h1⟩
theorem Row.back {g : Nat} {e : TypeId} {sz m c : Nat} {cs : List Value} (h1 : cs.length = c * sz) (h2 : m ≤ c) (h3 : c ≤ maxLen) : Row (cell1 g e cs) e sz (.slice (some ⟨g, 0, none⟩) m c) (cs.take (m * sz)) :=
  .inr ⟨g, m, c, cs.toArray, rfl, by rw [List.length_take, h1]; exact Nat.min_eq_left (Nat.mul_le_mul_right _ h2), rfl, h2, h3, by simp [h1], by simp⟩
section
variable {P : Program} {n : Nat} {C : Cx} {k : List KItem} {S : St}
/-- A block of the call's own, lent from now on. -/
theorem VC.toR {m : Own} {M : List Own} (hm : S.M.Perm (m :: M)) (L : KL) (hL : subv S.L L) (h : VC P n C k ⟨L, M, S.F, cell1 m.b m.t m.cs :: S.R, S.nx⟩) : VC P n C k S :=
  VC.reL L hL fun a w ha hw => h a w ha (Shift.toR hm L S.nx _ _ (hw.setL S.L S.nx))
end
end Go.Eng

/- The engine, part 18: loops and cuts in which all turns; rows that become blocks of the call's own; many rows lent to be read at once. -/
namespace Go.Eng
open Go Go.RowKit
set_option linter.unusedSimpArgs false
set_option linter.unusedVariables false
section
variable {P : Program} {n : Nat} {C : Cx} {k : List KItem} {S : St} {o : Oper} {B : Base} {st : Bool} {κ : St → Prop}
/-- Loops in which own blocks, what never turns and what is lent turn. -/
theorem VC.loopW {ι : Type} {c : Code} (L : ι → KL) (M : ι → List Own) (F : ι → PH) (R : ι → List PH) (I : ι → Prop) (μ : ι → Nat) (i0 : ι) (h0 : I i0) (hs : subk S.L (L i0)) (hM : (M i0).Sublist S.M) (hF : F i0 = S.F) (hR : subR (R i0) S.R)
    (round : ∀ i, I i → ∀ G : St → Prop, (∀ j S', I j → μ j < μ i → subk S'.L (L j) → (M j).Sublist S'.M → S'.F = F j → subR (R j) S'.R → G S') → VC P n C (.code c :: .done G :: k) ⟨L i, M i, F i, R i, S.nx⟩) : VC P n C (.code (.loop c) :: k) S := by
  obtain ⟨R0, hR1, hR2⟩ := hR
  refine VC.loop (fun i : ι × List PH => ⟨L i.1, M i.1, F i.1, i.2, S.nx⟩) (fun i => I i.1 ∧ i.2.Perm (R i.1)) (fun i => μ i.1) (i0, R0) ⟨h0, hR2⟩ ⟨subk_le hs, hM, hF, hR1⟩ ?_
  rintro ⟨i, Ri⟩ ⟨hi, hp⟩ G hG
  refine VC.permR hp (round i hi G fun j S' h1 h2 h3 h4 h5 ⟨l, h6, h7⟩ => ?_)
  exact hG (j, l) S' ⟨h1, h7⟩ h2 ⟨subk_le h3, h4, h5.symm, h6⟩
/-- A cut behind a piece of code in which all turns. -/
theorem VC.cutW {ι : Type} {c : Code} (L : ι → KL) (M : ι → List Own) (F : ι → PH) (R : ι → List PH) (I : ι → Prop)
    (hx : ∀ G : St → Prop, (∀ j S', I j → subk S'.L (L j) → (M j).Sublist S'.M → S'.F = F j → subR (R j) S'.R → G S') → VC P n C (.code c :: .done G :: k) S)
    (hk : ∀ i, I i → VC P n C k ⟨L i, M i, F i, R i, S.nx⟩) : VC P n C (.code c :: k) S := by
  refine VC.cut (fun i : ι × List PH => ⟨L i.1, M i.1, F i.1, i.2, S.nx⟩) (fun i => I i.1 ∧ i.2.Perm (R i.1)) (fun G hG => hx G fun j S' h1 h2 h3 h4 ⟨l, h6, h7⟩ => ?_) ?_
  · exact hG (j, l) S' ⟨h1, h7⟩ ⟨subk_le h2, h3, h4.symm, h6⟩
  · rintro ⟨i, Ri⟩ ⟨hi, hp⟩
    exact VC.permR hp (hk i hi)
/-- A row becomes a block of the call's own. -/
theorem VC.rowM {r : PH} {Rf : List PH} {e : TypeId} {sz m c : Nat} {p : Addr} {xs : List Value} (i : Nat) (hR : S.R.Perm (r :: Rf)) (hrow : Row r e sz (.slice (some p) m c) xs)
    (h : ∀ g cs, p = ⟨g, 0, none⟩ → cs.length = c * sz → m ≤ c → c ≤ maxLen → cs.take (m * sz) = xs → VC P n C k ⟨S.L, ⟨i, g, e, cs⟩ :: S.M, S.F, Rf, S.nx⟩) : VC P n C k S := by
  obtain ⟨g, cs, rfl, rfl, h1, h2, h3, h4, _⟩ := hrow.cells
  exact VC.fromR i hR (h g cs rfl h1 h2 h3 h4)
end
section
variable {P : Program} {n : Nat} {C : Cx} {k : List KItem} {S : St}
/-- Blocks of the call's own under other names. -/
theorem VC.renM (L' : KL) (M' : List Own) (nx' : Nat) (hl : subv S.L L') (hM : S.M.map (fun o => (o.b, o.t, o.cs)) = M'.map (fun o => (o.b, o.t, o.cs))) (h : VC P n C k ⟨L', M', S.F, S.R, nx'⟩) : VC P n C k S := by
  refine VC.reL L' hl fun a w ha hw => h a w ha ?_
  have hmem : ∀ o ∈ M', ∃ o' ∈ S.M, o'.b = o.b ∧ o'.t = o.t ∧ o'.cs = o.cs := fun o ho => by
    have : (o.b, o.t, o.cs) ∈ S.M.map (fun o => (o.b, o.t, o.cs)) := by rw [hM]; exact List.mem_map_of_mem ho
    obtain ⟨o', h1, h2⟩ := List.mem_map.1 this
    simp only [Prod.mk.injEq] at h2
    exact ⟨o', h1, h2⟩
  refine ⟨hw.f, fun o ho => ?_, ?_, hw.r, hw.rr, hw.late, hw.f0, hw.fnew⟩
  · obtain ⟨o', h1, h2, h3, h4⟩ := hmem o ho
    have := hw.m o' h1
    rw [h2, h3, h4] at this
    exact this
  · have h1 : (S.M.map (·.b)).Pairwise (· ≠ ·) := List.pairwise_map.2 hw.mm
    have h2 : S.M.map (·.b) = M'.map (·.b) := by
      have := congrArg (List.map (fun x : Nat × TypeId × List Value => x.1)) hM
      rw [List.map_map, List.map_map] at this
      exact this
    rw [h2] at h1
    exact List.pairwise_map.1 h1
end
theorem RetOk.r {P : Program} {ts : List ResultVar} {vs : List Value} {R' : List PH} {Q : Value → PH → List PH → Prop} {S : St} (hv : rvals P S ts = some vs) (hR : RetR S R') (hq : Q (rval vs) S.F R') : RetOk P ts Q S := ⟨vs, R', hv, hR, hq⟩
theorem RetR.ownSub {S : St} {i : Nat} {m : Own} {R' : List PH} (hM : ownF S.M i = some m) (h : R'.Sublist S.R) : RetR S (cell1 m.b m.t m.cs :: R') :=
  fun _ _ hs => (RetR.own hM _ _ hs).weaken ⟨(fun _ _ h => nomatch h), List.nil_sublist _, rfl, h.cons_cons _⟩
theorem Row.len {r : PH} {e : TypeId} {sz : Nat} {v : Value} {xs : List Value} (h : Row r e sz v xs) : ∃ p m c, v = .slice p m c ∧ xs.length = m * sz ∧ m ≤ c ∧ c ≤ maxLen := by
  rcases h with ⟨rfl, rfl, _⟩ | ⟨g, m', cap, cur, e1, h1, h2, h3, h4, h5, h6⟩
  · exact ⟨_, _, _, rfl, by simp, Nat.le_refl _, Nat.zero_le _⟩
  · exact ⟨_, _, _, e1, h1, h3, h4⟩
/-- A row with elements lies somewhere. -/
theorem Row.has {r : PH} {e : TypeId} {sz : Nat} {v : Value} {xs : List Value} (h : Row r e sz v xs) (hne : xs ≠ []) : ∃ p m c, v = .slice (some p) m c ∧ xs.length = m * sz ∧ m ≤ c ∧ c ≤ maxLen := by
  rcases h with ⟨rfl, rfl, _⟩ | ⟨g, m', cap, cur, e1, h1, h2, h3, h4, h5, h6⟩
  · exact absurd rfl hne
  · exact ⟨_, _, _, e1, h1, h3, h4⟩
/-- What is left behind some elements. -/
theorem Sl.drop {F : PH} {sz m c : Nat} {p : Option Addr} {xs : List Value} (h : Sl F sz (.slice p m c) m xs) {k : Nat} (hk : k ≤ m) : Sl F sz (.slice (if c = k then p else p.map (·.add (k * sz))) (m - k) (c - k)) (m - k) (xs.drop (k * sz)) := by
  obtain ⟨p', c', e, h1, h2, h3⟩ := h
  cases e
  refine ⟨_, _, rfl, by omega, by omega, ?_, fun hpos => ?_⟩
  · rw [List.length_drop, h3.1, Nat.sub_mul]
  · have hm : 0 < m - k := Nat.pos_of_mul_pos_right hpos
    obtain ⟨a, rfl, hc⟩ := h3.2 (Nat.lt_of_lt_of_le hpos (Nat.mul_le_mul_right _ (Nat.sub_le _ _)))
    rw [if_neg (by omega)]
    refine ⟨_, rfl, ?_⟩
    have := cells_sub hc (o := k * sz) (m := (m - k) * sz) (by rw [← Nat.add_mul]; exact Nat.mul_le_mul_right _ (by omega))
    rw [this, List.take_of_length_le]
    rw [List.length_drop, h3.1, Nat.sub_mul]
    exact Nat.le_refl _
/-- The first elements of a row. -/
theorem Row.take {r : PH} {e : TypeId} {sz m c : Nat} {p : Addr} {xs : List Value} (h : Row r e sz (.slice (some p) m c) xs) {k : Nat} (hk : k ≤ m) : Row r e sz (.slice (some p) k c) (xs.take (k * sz)) := by
  rcases h with ⟨e1, _⟩ | ⟨g, m', cap, cur, e1, h1, h2, h3, h4, h5, h6⟩
  · cases e1
  · cases e1
    refine .inr ⟨g, k, c, cur, rfl, ?_, h2, Nat.le_trans hk h3, h4, h5, ?_⟩
    · rw [List.length_take, h1]; exact Nat.min_eq_left (Nat.mul_le_mul_right _ hk)
    · rw [← h6, List.take_take, Nat.min_eq_left (Nat.mul_le_mul_right _ hk)]
section
variable {P : Program} {n : Nat} {C : Cx} {k : List KItem} {S : St} {κ : St → Prop} {f : FuncId} {args : List Value} {d : Option Tmp} {st : Bool}
theorem Fn.ok {P : Program} {f : FuncId} {args : List Value} {F : PH} {R : List PH} {Q : Value → PH → List PH → Prop} (h : Fn P f args F R Q) : CallOk P f := h.1
/-- A call to which rows are lent that come back changed, and own blocks. -/
theorem CallV.gen {R1 Rf : List PH} {Q : Value → PH → List PH → Prop} (hp : S.R.Perm (R1 ++ Rf)) (hc : Fn P f args S.F R1 Q) (next : ∀ v F' R', S.F.le F' → Q v F' R' → κ ⟨setk S.L d (.v v), S.M, F', R' ++ Rf, S.nx⟩) : CallV P st f args d κ S :=
  .mk ⟨_, R1, Rf, hc, hp, next⟩
end
section
variable {P : Program} {n : Nat} {C : Cx} {k : List KItem} {S : St} {all : Array Oper} {o : Oper} {l : List Oper} {B : Base} {κ : St → Prop} {st : Bool}
end
end Go.Eng

/- The engine, part 19: rows that lose their first elements (queues); ranges over maps; what is known of own blocks. -/
namespace Go.Eng
open Go Go.RowKit
open Go.ChangeMaps (setBlock)
set_option linter.unusedSimpArgs false
set_option linter.unusedVariables false
section
variable {P : Program} {n : Nat} {C : Cx} {k : List KItem} {S : St} {all : Array Oper} {o : Oper} {l : List Oper} {B : Base} {κ : St → Prop} {st : Bool}
/-- Nothing that never turns lies in a block of the call's own. -/
theorem VC.fnone {m : Own} (hm : m ∈ S.M) (h : S.F m.b = none → VC P n C k S) : VC P n C k S := fun a w ha hw => h (hw.m m hm).2.1 a w ha hw
/-- A row that begins anywhere in its block. -/
def QRow (r : PH) (e : TypeId) (sz : Nat) (v : Value) (xs : List Value) : Prop :=
  (v = .slice none 0 0 ∧ xs = [] ∧ ∀ b, r b = none) ∨
  ∃ g off m cap cur, v = .slice (some ⟨g, off, none⟩) m cap ∧ xs.length = m * sz ∧ r = PH.one g (.cells cur e (0, 0)) ∧ m ≤ cap ∧ cap ≤ maxLen ∧ off + cap * sz ≤ cur.size ∧ (cur.toList.drop off).take (m * sz) = xs
theorem Row.q {r : PH} {e : TypeId} {sz : Nat} {v : Value} {xs : List Value} (h : Row r e sz v xs) : QRow r e sz v xs := by
  rcases h with ⟨h1, h2, h3⟩ | ⟨g, m, cap, cur, h1, h2, h3, h4, h5, h6, h7⟩
  · exact .inl ⟨h1, h2, h3⟩
  · exact .inr ⟨g, 0, m, cap, cur, h1, h2, h3, h4, h5, by omega, by simpa using h7⟩
theorem QRow.len {r : PH} {e : TypeId} {sz : Nat} {v : Value} {xs : List Value} (h : QRow r e sz v xs) : ∃ p m c, v = .slice p m c ∧ xs.length = m * sz ∧ m ≤ c ∧ c ≤ maxLen := by
  rcases h with ⟨rfl, rfl, _⟩ | ⟨g, off, m, cap, cur, e1, h1, h2, h3, h4, _⟩
  · exact ⟨_, _, _, rfl, by simp, Nat.le_refl _, Nat.zero_le _⟩
  · exact ⟨_, _, _, e1, h1, h3, h4⟩
theorem QRow.nil (e : TypeId) (sz : Nat) : QRow PH.emp e sz (.slice none 0 0) [] := .inl ⟨rfl, rfl, fun _ => rfl⟩
theorem run_append_room_at (w : World) (t ty' e : TypeId) (i : TypeInfo) (ht : P.underlying t = some (.slice e)) (hi : P.info? e = some i) {g off sLen sCap : Nat} {cur : Array Value} {et : TypeId} (hg : w.heap[g]? = some (.cells cur et (0, 0)))
    (a : Addr) (m c : Nat) (news : List Value) (hl : news.length = m * i.size) (hnews : ∀ j u, news[j]? = some u → w.cell? (a.add j) = some u) (h1 : ∀ u ∈ news, u.oneCell' = true) (hroom : sLen + m ≤ sCap) (hs : off + sCap * i.size ≤ cur.size) :
    (Builtin.append_ #[t, t] ty' #[.slice (some ⟨g, off, none⟩) sLen sCap, .slice (some a) m c]).run P w = .ok (.slice (some ⟨g, off, none⟩) (sLen + m) sCap) (w.setRow g (wr cur.toList (off + sLen * i.size) news).toArray) := by
  have hfc := run_firstCells_some (P := P) w i.size m a m c news hl hnews
  have hle : sLen * i.size + m * i.size ≤ sCap * i.size := by rw [← Nat.add_mul]; exact Nat.mul_le_mul_right _ hroom
  have hst := run_storeCells_at P g (off + sLen * i.size) et news 0 cur w hg (by simp only [hl]; omega) h1
  simp only [Nat.add_zero] at hst
  simp [Builtin.append_, run_underlying ht, sizeOf, typeInfo, hi, Builtin.lenOf, hroom, hfc, Addr.add_lit, hst, wr]
theorem Eff.appendQ {s x : Operand} {args : Array Operand} {tys : Array TypeId} {t e : TypeId} {D : TD} {u : TD} {v : Value} {xs ys : List Value} {p : Option Addr} {m c : Nat} {r : PH} {Rf : List PH}
    (ho : o.op = .call ⟨.builtin .append, args, tys⟩) (ha : args.toList = [s, x]) (htys : tys.toList = [t, t]) (ht : ty P t = some u) (hu : u.d = .slice e) (hD : ty P e = some D) (hz : D.size = D.zero.cells.size) (hpos : 0 < D.size)
    (hs : evo S.L s = some (.v v)) (hx : evo S.L x = some (.v (.slice p m c))) (hp : S.R.Perm (r :: Rf)) (hrow : QRow r e D.size v xs) (hsrc : Src S.F p (m * D.size) ys) (h1 : ∀ u ∈ ys, u.oneCell' = true) (hm : 0 < m)
    (hb : xs.length + ys.length ≤ 1000000000) (hby : D.bytes ≤ 1000)
    (h : ∀ v' r', QRow r' e D.size v' (xs ++ ys) → κ ⟨setk S.L o.dst (.v v'), S.M, S.F, r' :: Rf, S.nx⟩) : Eff P n B st o S κ := by
  rcases hrow with ⟨rfl, rfl, hn⟩ | ⟨g, off, m0, cap, cur, rfl, hxl, rfl, hmc, hcm, hsz, hcur⟩
  · exact Eff.append ho ha htys ht hu hD hz hpos hs hx hp (.inl ⟨rfl, rfl, hn⟩) hsrc h1 hb hby fun v' r' hr => h v' r' hr.q
  refine Eff.value fun a w hka hkw => ?_
  obtain rfl : args = #[s, x] := by cases args; simp at ha; simp [ha]
  obtain rfl : tys = #[t, t] := by cases tys; simp at htys; simp [htys]
  have hu' : P.underlying t = some (.slice e) := by rw [(ty_some ht).1, hu]
  obtain ⟨_, i, hi, hi1, hi2, hi3⟩ := ty_some hD
  obtain ⟨ad, rfl⟩ : ∃ ad, p = some ad := by
    obtain ⟨a', h1, _⟩ := hsrc.2 (Nat.mul_pos hm hpos)
    exact ⟨a', h1⟩
  have hg : w.heap[g]? = some (.cells cur e (0, 0)) := (hkw.r _ (hp.mem_iff.2 List.mem_cons_self)).1 g _ (PH.one_self _ _)
  have he : ∀ v' w', (Builtin.append_ #[t, t] o.type #[.slice (some ⟨g, off, none⟩) m0 cap, .slice (some ad) m c]).run P w = .ok v' w' → (execOp a.eval o).run P w = .ok (.value v') w' := by
    intro v' w' hrun
    obtain ⟨dst, op, type, pos, after, guard⟩ := o
    subst ho
    simp only [execOp, resolve, invoke, builtin, Sem.run_bind, Sem.run_pure, Result.andThen_ok, List.map_toArray, List.map_cons, List.map_nil, hka.eval hs, hka.eval hx, AV.val_v, hrun]
  have hcells := hsrc.cellw rfl hkw.f
  have hx1 : m0 ≤ xs.length := by rw [hxl]; exact Nat.le_mul_of_pos_right _ hpos
  have hy1 : m ≤ ys.length := by rw [hsrc.1]; exact Nat.le_mul_of_pos_right _ hpos
  have hmul : m0 * D.size + m * D.size = (m0 + m) * D.size := by rw [Nat.add_mul]
  have hlcur : cur.toList.length = cur.size := by simp
  by_cases hroom : m0 + m ≤ cap
  · have hrun := run_append_room_at (P := P) w t o.type e i hu' hi hg ad m c ys (by rw [hi1]; exact hsrc.1) hcells h1 hroom (by rw [hi1]; exact hsz)
    rw [hi1] at hrun
    have hle : (m0 + m) * D.size ≤ cap * D.size := Nat.mul_le_mul_right _ hroom
    have hys := hsrc.1
    refine ⟨.v (.slice (some ⟨g, off, none⟩) (m0 + m) cap), _, S.M, S.F, PH.one g (.cells (wr cur.toList (off + m0 * D.size) ys).toArray e (0, 0)) :: Rf, S.nx, he _ _ hrun, ?_, Stab.refl _ _ _ _, h _ _ (.inr ⟨g, off, m0 + m, cap, _, rfl, by rw [List.length_append, hxl, hsrc.1, Nat.add_mul], rfl, hroom, hcm, ?_, ?_⟩)⟩
    · refine hkw.swapR (w' := w.setRow g (wr cur.toList (off + m0 * D.size) ys).toArray) (r' := PH.one g (.cells (wr cur.toList (off + m0 * D.size) ys).toArray e (0, 0))) hp rfl rfl rfl (by simp) (fun b hb hn => setRow_other _ _ _ _ fun e' => ?_) (fun b u e' => ?_) (fun b hb => .inl ?_) _ _
      · subst e'; rw [PH.one_self] at hn; cases hn
      · simp only [PH.one] at e'
        split at e'
        · rename_i hbb; cases e'; subst hbb; exact setRow_heap w b _ _ _ _ hg
        · cases e'
      · by_cases e' : b = g
        · subst e'; rw [PH.one_self]; exact fun h => nomatch h
        · simp [PH.one, e'] at hb
    · simp only [wr, List.size_toArray, List.length_append, List.length_take, List.length_drop, hlcur]; omega
    · rw [← hcur]
      simp only [wr, Nat.add_mul]
      rw [List.drop_append, List.drop_append, List.length_append, List.length_take, hlcur, Nat.min_eq_left (by omega), List.drop_take, show off + m0 * D.size - off = m0 * D.size by omega, show off - (off + m0 * D.size) = 0 by omega, List.drop_zero, show off - (off + m0 * D.size + ys.length) = 0 by omega, List.drop_zero,
        List.take_append_of_le_length (by simp only [List.length_append, List.length_take, List.length_drop, hlcur]; omega), List.take_of_length_le (by simp only [List.length_append, List.length_take, List.length_drop, hlcur]; omega)]
  · obtain ⟨v', w', g1, g2, g3⟩ := run_append_arg_grows (P := P) w t o.type e i D.zero D.size D.bytes hu' hi hi3 hi1 hi2 hz.symm hpos ⟨g, off, none⟩ m0 cap xs hxl (fun j u hj => by
      rw [add_own]
      simp only [World.cell?, hg]
      rw [← hcur, List.getElem?_take] at hj
      split at hj
      · rw [List.getElem?_drop] at hj; simpa using hj
      · cases hj) ad m c ys hsrc.1 hcells (by omega) (by unfold maxLen; omega) (by
      have := Nat.mul_le_mul (show m0 + m ≤ 1000000000 by omega) hby
      omega)
    have g2' : w'.ownsRow 0 e D.size v' (m0 + m) (xs ++ ys) := by
      obtain ⟨k1, k2⟩ := g2
      refine ⟨k1, ?_⟩
      rcases k2 with k2 | ⟨g', cap', cur', q1, q2, q3⟩
      · exact .inl k2
      · exact .inr ⟨g', cap', cur', q1, Nat.zero_le _, q3⟩
    have hnew : ∀ b, v'.ownBlock = some b → w.heap.size ≤ b := by
      intro b hb
      rcases g2.2 with ⟨rfl, _⟩ | ⟨g', cap', cur', rfl, q2, q3⟩
      · simp [Value.ownBlock] at hb
      · simp [Value.ownBlock] at hb
        omega
    obtain ⟨r', hrow', hr', hblk'⟩ := owns_row g2'
    refine ⟨.v v', w', S.M, S.F, r' :: Rf, S.nx, he _ _ g1, ?_, Stab.refl _ _ _ _, h v' r' hrow'.q⟩
    exact hkw.swapR (r' := r') hp g3.os g3.tape g3.output g3.size (fun b hb _ => g3.block b hb (fun e => nomatch e)) hr' (fun b hb => .inr (hnew b (Classical.byContradiction fun hc => hb ((hblk' b).2 hc)))) _ _
/-- A queue with elements: its block, as the call's own. -/
theorem VC.qrowM {r : PH} {Rf : List PH} {e : TypeId} {sz m c : Nat} {p : Addr} {xs : List Value} (i : Nat) (hR : S.R.Perm (r :: Rf)) (hrow : QRow r e sz (.slice (some p) m c) xs)
    (h : ∀ g off cs, p = ⟨g, off, none⟩ → r = cell1 g e cs → off + c * sz ≤ cs.length → m ≤ c → c ≤ maxLen → (cs.drop off).take (m * sz) = xs → VC P n C k ⟨S.L, ⟨i, g, e, cs⟩ :: S.M, S.F, Rf, S.nx⟩) : VC P n C k S := by
  rcases hrow with ⟨e1, _⟩ | ⟨g, off, m', cap, cur, e1, h1, rfl, h2, h3, h4, h5⟩
  · cases e1
  · cases e1
    have e0 : PH.one g (.cells cur e (0, 0)) = cell1 g e cur.toList := by simp [cell1]
    rw [e0] at hR
    exact VC.fromR i hR (h g off cur.toList rfl e0 (by simpa using h4) h2 h3 h5)
theorem QRow.back {g off m c sz : Nat} {e : TypeId} {cs : List Value} (h1 : off + c * sz ≤ cs.length) (h2 : m ≤ c) (h3 : c ≤ maxLen) : QRow (cell1 g e cs) e sz (.slice (some ⟨g, off, none⟩) m c) ((cs.drop off).take (m * sz)) :=
  .inr ⟨g, off, m, c, cs.toArray, rfl, by
    have := Nat.mul_le_mul_right sz h2
    rw [List.length_take, List.length_drop]; omega, rfl, h2, h3, by simpa using h1, by simp⟩
/-- Entries that were laid one behind the other. -/
def Stamped (es : Array MapEntry) (c : Nat) : Prop := (∀ x ∈ es.toList, x.born < c) ∧ (es.toList.map (·.born)).Nodup
theorem stamped_nil : Stamped #[] 0 := ⟨(fun _ h => by simp at h), by simp⟩
end
section
variable {α : Type}
/-- A map that is laid: its entries as a list, and none of them laid later. -/
def MapIs (k : α → Value) (es : Array MapEntry) (c : Nat) (l : List (α × Value)) : Prop := MapAs k es l ∧ Stamped es c
theorem mapIs_nil (k : α → Value) : MapIs k #[] 0 [] := ⟨mapAs_nil k, stamped_nil⟩
end
section
variable {α : Type} [DecidableEq α] {kind : TypeDesc} {key : α → Value}
variable {P : Program} {n : Nat} {S : St} {o : Oper} {B : Base} {st : Bool} {κ : St → Prop}
theorem mapModify_born {L : List MapEntry} {j : Nat} {f : MapEntry → MapEntry} (hf : ∀ e, (f e).born = e.born) : (L.modify j f).map (·.born) = L.map (·.born) := by
  induction L generalizing j with
  | nil => cases j <;> rfl
  | cons e L ih => cases j with
    | zero => simp [hf]
    | succ j => simp [ih]
theorem Eff.updateI {t kt et : TypeId} {u : TD} {x i y : Operand} {b c : Nat} {es : Array MapEntry} {l : List (α × Value)} {a : α} {v : AV} {Rf : List PH} (hk : KeyOk kind key) (hd : o.dst = none) (ho : o.op = .mapUpdate t x i y) (ht : ty P t = some u) (hu : u.d = .map kt et) (hkt : P.underlying kt = some kind)
    (hx : evo S.L x = some (.v (.map (some b)))) (hi : evo S.L i = some (.v (key a))) (hy : evo S.L y = some v) (hR : S.R.Perm (PH.one b (.map es c) :: Rf)) (hes : MapIs key es c l)
    (h : ∀ es' c', MapIs key es' c' (mput l a v.val) → κ ⟨S.L, S.M, S.F, PH.one b (.map es' c') :: Rf, S.nx⟩) : Eff P n B st o S κ := by
  obtain ⟨hes, hst⟩ := hes
  intro ac w hka hw K Q hK
  obtain ⟨dst, op, type, pos, after, guard⟩ := o
  subst ho
  subst hd
  have hb : w.heap[b]? = some (.map es c) := (hw.r _ (hR.mem_iff.2 List.mem_cons_self)).1 b _ (PH.one_self _ _)
  have hmap : P.underlying t = some (.map kt et) := by have h2 := (ty_some ht).1; rw [hu] at h2; exact h2
  have hc := MapKept.run_checkKey (w := w) hkt (hk.key a) false 9999
  have hg := MapKept.run_getObj_map (P := P) hb
  have hkey : ∃ es' c', MapIs key es' c' (mput l a v.val) ∧ (Instr.mapUpdate t (.map (some b)) (key a) v.val).run P w = .ok () { w with heap := w.heap.setIfInBounds b (.map es' c') } := by
    rcases find_as hk a es.toList l 0 hes with ⟨g1, g2, g3⟩ | ⟨j, v0, e, g1, g2, g3, g4, g5⟩
    · refine ⟨es.push { key := key a, val := v.val, born := c }, c + 1, ⟨?_, fun x hx => ?_, ?_⟩, ?_⟩
      · unfold MapAs at hes ⊢
        rw [g3, Array.toList_push, List.map_append, List.map_append, hes]
        rfl
      · rw [Array.toList_push] at hx
        rcases List.mem_append.1 hx with hx | hx
        · exact Nat.lt_succ_of_lt (hst.1 x hx)
        · obtain rfl := List.mem_singleton.1 hx
          exact Nat.lt_succ_self _
      · rw [Array.toList_push, List.map_append]
        refine List.nodup_append.2 ⟨hst.2, by simp, fun y hy z hz => ?_⟩
        obtain ⟨x, hx, rfl⟩ := List.mem_map.1 hy
        have := hst.1 x hx
        simp at hz
        omega
      · simp only [Instr.mapUpdate, Sem.run_bind, run_underlying hmap, Result.andThen_ok, hg, hc, MapKept.run_findKey hkt g2, MapKept.run_setObj_map _ hb]
    · have hborn : (es.toList.modify j (fun e => { e with key := key a, val := v.val })).map (·.born) = es.toList.map (·.born) := mapModify_born (fun _ => rfl)
      refine ⟨es.modify j (fun e => { e with key := key a, val := v.val }), c, ⟨?_, fun x hx => ?_, ?_⟩, ?_⟩
      · unfold MapAs
        rw [Array.toList_modify]
        exact g5 v.val
      · have hx' : x.born ∈ (es.modify j (fun e => { e with key := key a, val := v.val })).toList.map (·.born) := List.mem_map.2 ⟨x, hx, rfl⟩
        rw [Array.toList_modify, hborn] at hx'
        obtain ⟨y, hy, e1⟩ := List.mem_map.1 hx'
        rw [← e1]; exact hst.1 y hy
      · rw [Array.toList_modify, hborn]; exact hst.2
      · have hge : es[0 + j]? = some e := by rw [Nat.zero_add, ← Array.getElem?_toList]; exact g3
        simp only [Instr.mapUpdate, Sem.run_bind, run_underlying hmap, Result.andThen_ok, hg, hc, MapKept.run_findKey hkt g2]
        rw [hge]
        simp only [Option.map_some, Option.getD_some, g4, Instr.keyThatStays, hk.bits a, if_true, Sem.run_pure, Result.andThen_ok, MapKept.run_setObj_map _ hb, Nat.zero_add]
  obtain ⟨es', c', k1, k2⟩ := hkey
  have e : execOp ac.eval ⟨none, .mapUpdate t x i y, type, pos, after, guard⟩ = (do Instr.mapUpdate t (ac.eval x) (ac.eval i) (ac.eval y); pure .skip) := rfl
  unfold Oper.wp
  rw [e, hka.eval hx, hka.eval hi, hka.eval hy]
  simp only [AV.val_v, Sem.run_bind, k2, Result.andThen_ok, Sem.run_pure, Oper.upon_skip]
  have hs := MapKept.heap_set (o' := .map es' c') hb
  refine hK (.v undef) _ ⟨S.L, S.M, S.F, PH.one b (.map es' c') :: Rf, S.nx⟩ rfl ?_ (fun _ _ => Stab.refl _ _ _ _) (h es' c' k1)
  refine hw.swapR (w' := { w with heap := w.heap.setIfInBounds b (.map es' c') }) hR rfl rfl rfl (by simp) (fun b' hb' hn => hs.2 b' (fun e => ?_)) (fun b' u' e => ?_) (fun b' hb' => .inl fun e => ?_) S.L S.nx
  · subst e; rw [PH.one_self] at hn; cases hn
  · simp only [PH.one] at e
    split at e
    · rename_i hbb; cases e; subst hbb; exact hs.1
    · cases e
  · by_cases hbb : b' = b
    · subst hbb; rw [PH.one_self] at e; cases e
    · simp [PH.one, hbb] at hb'
/-- A range over a map begins. -/
theorem Eff.range {t kt et : TypeId} {u : TD} {x : Operand} {b c : Nat} {es : Array MapEntry} (ho : o.op = .range t x) (ht : ty P t = some u) (hu : u.d = .map kt et) (hx : evo S.L x = some (.v (.map (some b)))) (hm : MAt S b es c)
    (h : ∀ q, κ ⟨setk S.L o.dst (.v (.pointer (some ⟨q, 0, none⟩))), S.M, S.F, PH.one q (.mapIter (some b) c #[] c) :: S.R, S.nx⟩) : Eff P n B st o S κ := by
  refine Eff.value fun a w hka hw => ⟨.v (.pointer (some ⟨w.heap.size, 0, none⟩)), w.alloc (.mapIter (some b) c #[] c), S.M, S.F, _, S.nx, ?_, ?_, Stab.refl _ _ _ _, h w.heap.size⟩
  · obtain ⟨dst, op, type, pos, after, guard⟩ := o
    subst ho
    have hu' : P.underlying t = some (.map kt et) := by have h2 := (ty_some ht).1; rw [hu] at h2; exact h2
    refine run_value' (s := Instr.range t (a.eval x)) (by rfl) ?_
    rw [hka.eval hx]
    exact run_range_map w t kt et b es c hu' (hm.heap hw)
  · have hR := hw.emp.swapR (r := PH.emp) (r' := PH.one w.heap.size (.mapIter (some b) c #[] c)) (Rf := S.R) (w' := w.alloc (.mapIter (some b) c #[] c)) (List.Perm.refl _) rfl rfl rfl (by simp) (fun b hb _ => Below.heap_alloc w _ b hb) (fun b u e => by
        simp only [PH.one] at e
        split at e
        · rename_i hb; cases e; subst hb; exact (MapKept.heap_alloc w _).1
        · cases e) (fun b hb => by
        right
        by_cases e : b = w.heap.size
        · omega
        · simp [PH.one, e] at hb) S.L S.nx
    exact hR
/-- The next entry, whichever, or the end. -/
theorem Eff.next {x : Operand} {q b c : Nat} {es : Array MapEntry} {seen : Array Nat} {Rf : List PH} (ho : o.op = .next x false) (hx : evo S.L x = some (.v (.pointer (some ⟨q, 0, none⟩)))) (hR : S.R.Perm (PH.one q (.mapIter (some b) c seen c) :: Rf)) (hm : S.F b = some (.map es c)) (hs : Stamped es c)
    (h0 : (leftOf es seen).size = 0 → κ ⟨setk S.L o.dst (.v (.tuple #[.bool false])), S.M, S.F, PH.one q (.mapIter (some b) c seen c) :: Rf, S.nx⟩)
    (h1 : ∀ e ∈ (leftOf es seen).toList, κ ⟨setk S.L o.dst (.v (.tuple #[.bool true, e.key, e.val])), S.M, S.F, PH.one q (.mapIter (some b) c (seen.push e.born) c) :: Rf, S.nx⟩) : Eff P n B st o S κ := by
  refine Eff.value fun a w hka hw => ?_
  have hq : w.heap[q]? = some (.mapIter (some b) c seen c) := (hw.r _ (hR.mem_iff.2 List.mem_cons_self)).1 q _ (PH.one_self _ _)
  have hb : w.heap[b]? = some (.map es c) := hw.f b _ hm
  obtain ⟨dst, op, type, pos, after, guard⟩ := o
  subst ho
  have hx' := hka.eval hx
  rcases run_next_at (P := P) w type q b c c seen es c hq hb hs.1 (Nat.le_refl _) with ⟨k1, k2⟩ | ⟨e, he, w1, hal, k2⟩
  · refine ⟨.v (.tuple #[.bool false]), w, S.M, S.F, _, S.nx, ?_, hw.permR hR, Stab.refl _ _ _ _, h0 k1⟩
    exact run_value' (s := Instr.next (a.eval x) false type) (by rfl) (by rw [hx']; exact k2)
  · have hq1 : w1.heap[q]? = some (.mapIter (some b) c seen c) := by rcases hal with rfl | rfl <;> exact hq
    have hset := MapKept.heap_set (o' := .mapIter (some b) c (seen.push e.born) c) hq1
    refine ⟨.v (.tuple #[.bool true, e.key, e.val]), _, S.M, S.F, _, S.nx, run_value' (s := Instr.next (a.eval x) false type) (by rfl) (by rw [hx']; exact k2), ?_, Stab.refl _ _ _ _, h1 e he⟩
    have e1 : w1.os = w.os ∧ w1.tape = w.tape ∧ w1.output = w.output ∧ w1.heap = w.heap := by rcases hal with rfl | rfl <;> exact ⟨rfl, rfl, rfl, rfl⟩
    refine hw.swapR (w' := setBlock w1 q (.mapIter (some b) c (seen.push e.born) c)) (r' := PH.one q (.mapIter (some b) c (seen.push e.born) c)) hR e1.1 e1.2.1 e1.2.2.1 (by simp [setBlock, e1.2.2.2]) (fun b' hb' hn => ?_) (fun b' u' e' => ?_) (fun b' hb' => .inl fun e' => ?_) S.L S.nx
    · exact (hset.2 b' (fun e' => by subst e'; rw [PH.one_self] at hn; cases hn)).trans (by rw [e1.2.2.2])
    · simp only [PH.one] at e'
      split at e'
      · rename_i hbb; cases e'; subst hbb; exact hset.1
      · cases e'
    · by_cases hbb : b' = q
      · subst hbb; rw [PH.one_self] at e'; cases e'
      · simp [PH.one, hbb] at hb'
/-- The entry that came last. -/
theorem Eff.entry {x : Operand} {q b c : Nat} {es : Array MapEntry} {seen : Array Nat} {Rf : List PH} {e : MapEntry} (ho : o.op = .entry x) (hx : evo S.L x = some (.v (.pointer (some ⟨q, 0, none⟩)))) (hR : S.R.Perm (PH.one q (.mapIter (some b) c (seen.push e.born) c) :: Rf)) (hm : S.F b = some (.map es c)) (hs : Stamped es c) (he : e ∈ es.toList)
    (h : κ { S with L := setk S.L o.dst (.v (.tuple #[e.key, e.val])) }) : Eff P n B st o S κ := by
  refine Eff.value fun a w hka hw => ⟨.v (.tuple #[e.key, e.val]), w, S.M, S.F, S.R, S.nx, ?_, hw, Stab.refl _ _ _ _, h⟩
  have hq : w.heap[q]? = some (.mapIter (some b) c (seen.push e.born) c) := (hw.r _ (hR.mem_iff.2 List.mem_cons_self)).1 q _ (PH.one_self _ _)
  have hb : w.heap[b]? = some (.map es c) := hw.f b _ hm
  obtain ⟨dst, op, type, pos, after, guard⟩ := o
  subst ho
  refine run_value' (s := Instr.entry (a.eval x)) (by rfl) ?_
  rw [hka.eval hx]
  exact run_entry_at w q b c seen es c e hq hb he hs.2
end
section
variable {P : Program} {n : Nat} {S : St} {κ : St → Prop} {f : FuncId} {args : List Value} {d : Option Tmp}
/-- A call to which one own block and some rows are lent; what comes back, in an order of one's own. -/
theorem CallV.ownP {i : Nat} {m : Own} {R1 Rf : List PH} {Q : Value → PH → List PH → Prop} {Q' : Value → PH → List Value → List PH → Prop} (hM : ownF S.M i = some m) (hp : S.R.Perm (R1 ++ Rf)) (hc : Fn P f args S.F (cell1 m.b m.t m.cs :: R1) Q)
    (hq : ∀ v F' R', S.F.le F' → Q v F' R' → ∃ cs' R2 R'', R' = cell1 m.b m.t cs' :: R'' ∧ (R'' ++ Rf).Perm R2 ∧ Q' v F' cs' R2)
    (next : ∀ v F' cs' R2, S.F.le F' → Q' v F' cs' R2 → κ ⟨setk S.L d (.v v), updM S.M i cs', F', R2, S.nx⟩) : CallV P false f args d κ S := by
  obtain ⟨M', hpm, hu⟩ := own_split hM
  refine ⟨_, ⟨[], M', S.F, cell1 m.b m.t m.cs :: S.R, 0⟩, cell1 m.b m.t m.cs :: R1, Rf, .toR hpm _ _, hc, hp.cons _, ?_⟩
  intro v F' R' hF q
  obtain ⟨cs', R2, R'', rfl, hp2, q'⟩ := hq _ _ _ hF q
  exact ⟨_, rfl, Shift.fromR m.i (hp2.cons _) (hu cs').symm _ _, fun h => (nomatch h), next v F' cs' R2 hF q'⟩
end
section
variable {P : Program} {n : Nat} {S : St} {κ : St → Prop} {f : FuncId} {args : List Value} {d : Option Tmp} {st : Bool}
/-- A call to which an own block is lent that comes back as it was. -/
theorem CallV.lookP {i : Nat} {m : Own} {R1 Rf : List PH} {Q : Value → PH → List PH → Prop} {Q' : Value → PH → List PH → Prop} (hM : ownF S.M i = some m) (hp : S.R.Perm (R1 ++ Rf)) (hc : Fn P f args S.F (cell1 m.b m.t m.cs :: R1) Q)
    (hq : ∀ v F' R', S.F.le F' → Q v F' R' → ∃ R2 R'', R' = cell1 m.b m.t m.cs :: R'' ∧ (R'' ++ Rf).Perm R2 ∧ Q' v F' R2)
    (next : ∀ v F' R2, S.F.le F' → Q' v F' R2 → κ ⟨setk S.L d (.v v), S.M, F', R2, S.nx⟩) : CallV P st f args d κ S := by
  obtain ⟨M', hpm, hu⟩ := own_split hM
  refine ⟨_, ⟨[], M', S.F, cell1 m.b m.t m.cs :: S.R, 0⟩, cell1 m.b m.t m.cs :: R1, Rf, .toR hpm _ _, hc, hp.cons _, ?_⟩
  intro v F' R' hF q
  obtain ⟨R2, R'', rfl, hp2, q'⟩ := hq _ _ _ hF q
  exact ⟨_, rfl, Shift.fromR m.i (hp2.cons _) hpm.symm _ _, fun _ => ⟨hF, fun _ _ h => h⟩, next v F' R2 hF q'⟩
end
/-- The walk of a function whose first argument is the address of a block that is lent to it, with rows beside. -/
theorem SFn.intro {P : Program} {n : Nat} {f : FuncId} {args : List Value} {R : List PH} {fn : Func} {c : Code} {F : PH} {b : Nat} {t : TypeId} {cs : List Value} {Q : Value → PH → List PH → Prop} {ts : List ResultVar} (hf : P.funcs[f]? = some fn) (hb : fn.body = some c) (hn : (fn.name == "runtime.NumGoroutine") = false)
    (hr : fn.results = ts.toArray) (hnt : fn.ntmps = n) (hl : args.length + 1 ≤ n)
    (h : ∀ B : Base, B.F = F → VC P n (retC P n B ts Q) [.code c] ⟨(0, .o 0 b 0) :: initL 1 args, [⟨0, b, t, cs⟩], F, R, 1⟩) : Fn P f (.pointer (some ⟨b, 0, none⟩) :: args) F (cell1 b t cs :: R) Q := by
  refine Fn.intro hf hb hn hr hnt (by simpa using hl) fun B hB => ?_
  refine VC.fromR 0 (.refl _) (VC.reL ((0, .o 0 b 0) :: initL 1 args) ?_ ?_)
  · have key : ∀ (l : List Value) (i : Nat) (L : KL), (∀ d x, look (initL i l) d = some x → look L d = some x) → subv L (initL i l) := by
      intro l
      induction l with
      | nil => intro i L _; trivial
      | cons v l ih =>
        intro i L h
        refine ⟨?_, ih (i + 1) L fun d x hx => h d x ?_⟩
        · rw [h i (.v v) (by simp [initL, look])]
        · simp only [initL, look]
          split
          · rename_i e
            subst e
            obtain ⟨j, h1, _⟩ := initL_look l (i + 1) i x hx
            omega
          · exact hx
    refine ⟨by simp [initL, look], key args 1 _ fun d x hx => ?_⟩
    have : look (initL 0 (.pointer (some ⟨b, 0, none⟩) :: args)) d = some x := by
      simp only [initL, look]
      split
      · rename_i e
        subst e
        obtain ⟨j, h1, _⟩ := initL_look args 1 0 x hx
        omega
      · exact hx
    exact this
  · exact fun a w ha hw => h B hB a w ha (hw.setL _ _)
end Go.Eng
