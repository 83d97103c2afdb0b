/- The engine, part 15: maps whose keys are integers or texts. -/
import Derived.Test.YthdbmbabfngakaaE14
import Derived.MapKept
import Derived.Carry
namespace Go.Eng
open Go Go.RowKit
set_option linter.unusedSimpArgs false
set_option linter.unusedVariables false
/-- A key's kind: how it is a value. -/
structure KeyOk {α : Type} [DecidableEq α] (kind : TypeDesc) (k : α → Value) : Prop where
  same : ∀ a b, Instr.sameNow kind (k a) (k b) = some (decide (a = b))
  key : ∀ a, MapKept.IsKey kind (k a)
  bits : ∀ a, Instr.sameBits 10000 (k a) (k a) = true
theorem keyStr : KeyOk .string Value.string where
  same a b := by
    simp only [Instr.sameNow]
    congr 1
    cases h : a == b with
    | true => simp [(MapKept.bytes_beq a b).1 h]
    | false =>
      have : ¬ a = b := fun e => by rw [(MapKept.bytes_beq a b).2 e] at h; cases h
      simp [this]
  key a := trivial
  bits a := by simp only [Instr.sameBits]; exact (MapKept.bytes_beq a a).2 rfl
theorem keyInt (i : IntKind) : KeyOk (.int i) (Value.int i) where
  same a b := by simp only [Instr.sameNow, if_true]; rfl
  key a := rfl
  bits a := by simp [Instr.sameBits]
/-- The entries, as a list of keys and values. -/
def MapAs {α : Type} (k : α → Value) (es : Array MapEntry) (l : List (α × Value)) : Prop := es.toList.map (fun e => (e.key, e.val)) = l.map (fun p => (k p.1, p.2))
def mget {α : Type} [DecidableEq α] : List (α × Value) → α → Option Value
  | [], _ => none
  | p :: l, a => if p.1 = a then some p.2 else mget l a
def mput {α : Type} [DecidableEq α] : List (α × Value) → α → Value → List (α × Value)
  | [], a, v => [(a, v)]
  | p :: l, a, v => if p.1 = a then (a, v) :: l else p :: mput l a v
theorem mget_mput {α : Type} [DecidableEq α] (l : List (α × Value)) (a b : α) (v : Value) : mget (mput l a v) b = if a = b then some v else mget l b := by
  induction l with
  | nil => simp [mput, mget]
  | cons p l ih =>
    simp only [mput]
    split
    · rename_i h
      simp only [mget]
      split
      · rfl
      · rename_i h2; rw [if_neg (fun e => h2 (h.symm ▸ e)), ]
    · rename_i h
      simp only [mget, ih]
      split
      · rename_i h2
        rw [if_neg (fun e => h (h2.trans e.symm))]
      · rfl
theorem mapAs_nil {α : Type} (k : α → Value) : MapAs k #[] [] := rfl
section
variable {α : Type} [DecidableEq α] {kind : TypeDesc} {k : α → Value}
theorem find_as (hk : KeyOk kind k) (a : α) : ∀ (L : List MapEntry) (l : List (α × Value)) (i : Nat), L.map (fun e => (e.key, e.val)) = l.map (fun p => (k p.1, p.2)) →
    (mget l a = none ∧ Instr.findNow kind (k a) L i = some none ∧ ∀ v, mput l a v = l ++ [(a, v)]) ∨
    ∃ j v e, mget l a = some v ∧ Instr.findNow kind (k a) L i = some (some (i + j, v)) ∧ L[j]? = some e ∧ e.key = k a ∧ ∀ v', (L.modify j (fun e => { e with key := k a, val := v' })).map (fun e => (e.key, e.val)) = (mput l a v').map (fun p => (k p.1, p.2))
  | [], [], i, _ => .inl ⟨rfl, rfl, fun _ => rfl⟩
  | [], _ :: _, i, h => by cases h
  | _ :: _, [], i, h => by cases h
  | e :: L, p :: l, i, h => by
    simp only [List.map_cons, List.cons.injEq, Prod.mk.injEq] at h
    obtain ⟨⟨h1, h2⟩, h3⟩ := h
    by_cases hp : p.1 = a
    · refine .inr ⟨0, p.2, e, by simp [mget, hp], ?_, rfl, by rw [h1, hp], fun v' => ?_⟩
      · simp [Instr.findNow, h1, hp, hk.same, h2]
      · simp [mput, hp, h3]
    · have hne : decide (a = p.1) = false := by simp [Ne.symm hp]
      rcases find_as hk a L l (i + 1) h3 with ⟨g1, g2, g3⟩ | ⟨j, v, e', g1, g2, g3, g4, g5⟩
      · exact .inl ⟨by simp [mget, hp, g1], by simp [Instr.findNow, h1, hk.same, hne, g2], fun v => by simp [mput, hp, g3]⟩
      · refine .inr ⟨j + 1, v, e', by simp [mget, hp, g1], ?_, by simpa using g3, g4, fun v' => ?_⟩
        · simp [Instr.findNow, h1, hk.same, hne, g2]; omega
        · simp [mput, hp, h1, h2, g5]
variable {P : Program} {n : Nat} {S : St} {o : Oper} {B : Base} {st : Bool} {κ : St → Prop}
theorem Eff.makeMap {t : TypeId} (ho : o.op = .makeMap t none) (h : ∀ b, κ ⟨setk S.L o.dst (.v (.map (some b))), S.M, S.F, PH.one b (.map #[] 0) :: S.R, S.nx⟩) : Eff P n B st o S κ := by
  refine Eff.value fun a w hka hw => ⟨.v (.map (some w.heap.size)), w.alloc (.map #[] 0), S.M, S.F, _, S.nx, ?_, ?_, Stab.refl _ _ _ _, h w.heap.size⟩
  · obtain ⟨dst, op, type, pos, after, guard⟩ := o
    subst ho
    exact run_value' (by rfl) (run_makeMap (P := P) t w)
  · have hR := hw.emp.swapR (r := PH.emp) (r' := PH.one w.heap.size (.map #[] 0)) (Rf := S.R) (w' := w.alloc (.map #[] 0)) (List.Perm.refl _) rfl rfl rfl (by simp) (fun b hb _ => Below.heap_alloc w _ b hb) (fun b u e => by
        simp only [PH.one] at e
        split at e
        · rename_i hb; cases e; subst hb; exact (MapKept.heap_alloc w _).1
        · cases e) (fun b hb => by
        right
        by_cases e : b = w.heap.size
        · omega
        · simp [PH.one, e] at hb) S.L S.nx
    exact hR
/-- A map that is known: it never turns, or it is lent. -/
def MAt (S : St) (b : Nat) (es : Array MapEntry) (c : Nat) : Prop := S.F b = some (.map es c) ∨ ∃ r ∈ S.R, r b = some (.map es c)
theorem MAt.heap {b : Nat} {es : Array MapEntry} {c : Nat} (h : MAt S b es c) {w : World} (hw : Sat B S w) : w.heap[b]? = some (.map es c) := by
  rcases h with h | ⟨r, hr, h⟩
  · exact hw.f b _ h
  · exact (hw.r r hr).1 b _ h
theorem Eff.lookup {t kt et : TypeId} {u D : TD} {x i : Operand} {ck : Bool} {b c : Nat} {es : Array MapEntry} {l : List (α × Value)} {a : α} (hk : KeyOk kind k) (ho : o.op = .lookup t x i ck) (ht : ty P t = some u) (hu : u.d = .map kt et) (hkt : P.underlying kt = some kind) (hD : ty P et = some D)
    (hx : evo S.L x = some (.v (.map (some b)))) (hi : evo S.L i = some (.v (k a))) (hm : MAt S b es c) (hes : MapAs k es l)
    (h : κ { S with L := setk S.L o.dst (.v (if ck then .tuple #[(mget l a).getD D.zero, .bool (mget l a).isSome] else (mget l a).getD D.zero)) }) : Eff P n B st o S κ := by
  refine Eff.value fun ac w hka hw => ⟨_, w, S.M, S.F, S.R, S.nx, ?_, hw, Stab.refl _ _ _ _, h⟩
  obtain ⟨dst, op, type, pos, after, guard⟩ := o
  subst ho
  have hmap : P.underlying t = some (.map kt et) := by have := ty_underlying (w := w) ht; rw [hu] at this; have h2 := (ty_some ht).1; rw [hu] at h2; exact h2
  have hc := MapKept.run_checkKey (w := w) hkt (hk.key a) es.isEmpty 9999
  have hg := MapKept.run_getObj_map (P := P) (hm.heap hw)
  refine run_value (s := Instr.lookup t (ac.eval x) (ac.eval i) ck) rfl ?_
  rw [hka.eval hx, hka.eval hi]
  simp only [AV.val_v, Instr.lookup, Sem.run_bind, run_underlying hmap, Result.andThen_ok, hg, Sem.run_pure, hc]
  rcases find_as hk a es.toList l 0 hes with ⟨g1, g2, _⟩ | ⟨j, v, e, g1, g2, _⟩
  · rw [MapKept.run_findKey hkt g2, g1]
    simp only [Result.andThen_ok, Sem.run_bind, ty_zero hD, Sem.run_pure, Option.getD_none, Option.isSome_none]
  · rw [MapKept.run_findKey hkt g2, g1]
    simp only [Result.andThen_ok, Sem.run_pure, Option.getD_some, Option.isSome_some]
    cases ck <;> rfl
theorem Eff.lookup0 {t kt et : TypeId} {u D : TD} {x i : Operand} {ck : Bool} {a : α} (hk : KeyOk kind k) (ho : o.op = .lookup t x i ck) (ht : ty P t = some u) (hu : u.d = .map kt et) (hkt : P.underlying kt = some kind) (hD : ty P et = some D)
    (hx : evo S.L x = some (.v (.map none))) (hi : evo S.L i = some (.v (k a)))
    (h : κ { S with L := setk S.L o.dst (.v (if ck then .tuple #[D.zero, .bool false] else D.zero)) }) : Eff P n B st o S κ := by
  refine Eff.value fun ac w hka hw => ⟨_, w, S.M, S.F, S.R, S.nx, ?_, hw, Stab.refl _ _ _ _, h⟩
  obtain ⟨dst, op, type, pos, after, guard⟩ := o
  subst ho
  have hmap : P.underlying t = some (.map kt et) := by have h2 := (ty_some ht).1; rw [hu] at h2; exact h2
  have hc := MapKept.run_checkKey (w := w) hkt (hk.key a) (#[] : Array MapEntry).isEmpty 9999
  refine run_value (s := Instr.lookup t (ac.eval x) (ac.eval i) ck) rfl ?_
  rw [hka.eval hx, hka.eval hi]
  simp only [AV.val_v, Instr.lookup, Sem.run_bind, run_underlying hmap, Result.andThen_ok, Sem.run_pure, hc]
  rw [MapKept.run_findKey (l := (#[] : Array MapEntry).toList) (a := none) hkt rfl]
  simp only [Result.andThen_ok, Sem.run_bind, ty_zero hD, Sem.run_pure]
theorem Eff.update {t kt et : TypeId} {u : TD} {x i y : Operand} {b c : Nat} {es : Array MapEntry} {l : List (α × Value)} {a : α} {v : AV} {Rf : List PH} (hk : KeyOk kind k) (hd : o.dst = none) (ho : o.op = .mapUpdate t x i y) (ht : ty P t = some u) (hu : u.d = .map kt et) (hkt : P.underlying kt = some kind)
    (hx : evo S.L x = some (.v (.map (some b)))) (hi : evo S.L i = some (.v (k a))) (hy : evo S.L y = some v) (hR : S.R.Perm (PH.one b (.map es c) :: Rf)) (hes : MapAs k es l)
    (h : ∀ es' c', MapAs k es' (mput l a v.val) → κ ⟨S.L, S.M, S.F, PH.one b (.map es' c') :: Rf, S.nx⟩) : Eff P n B st o S κ := by
  intro ac w hka hw K Q hK
  obtain ⟨dst, op, type, pos, after, guard⟩ := o
  subst ho
  subst hd
  have hb : w.heap[b]? = some (.map es c) := (hw.r _ (hR.mem_iff.2 List.mem_cons_self)).1 b _ (PH.one_self _ _)
  have hmap : P.underlying t = some (.map kt et) := by have h2 := (ty_some ht).1; rw [hu] at h2; exact h2
  have hc := MapKept.run_checkKey (w := w) hkt (hk.key a) false 9999
  have hg := MapKept.run_getObj_map (P := P) hb
  have key : ∃ es' c', MapAs k es' (mput l a v.val) ∧ (Instr.mapUpdate t (.map (some b)) (k a) v.val).run P w = .ok () { w with heap := w.heap.setIfInBounds b (.map es' c') } := by
    rcases find_as hk a es.toList l 0 hes with ⟨g1, g2, g3⟩ | ⟨j, v0, e, g1, g2, g3, g4, g5⟩
    · refine ⟨es.push { key := k a, val := v.val, born := c }, c + 1, ?_, ?_⟩
      · unfold MapAs at hes ⊢
        rw [g3, Array.toList_push, List.map_append, List.map_append, hes]
        rfl
      · simp only [Instr.mapUpdate, Sem.run_bind, run_underlying hmap, Result.andThen_ok, hg, hc, MapKept.run_findKey hkt g2, MapKept.run_setObj_map _ hb]
    · refine ⟨es.modify j (fun e => { e with key := k a, val := v.val }), c, ?_, ?_⟩
      · unfold MapAs
        rw [Array.toList_modify]
        exact g5 v.val
      · have hge : es[0 + j]? = some e := by rw [Nat.zero_add, ← Array.getElem?_toList]; exact g3
        simp only [Instr.mapUpdate, Sem.run_bind, run_underlying hmap, Result.andThen_ok, hg, hc, MapKept.run_findKey hkt g2]
        rw [hge]
        simp only [Option.map_some, Option.getD_some, g4, Instr.keyThatStays, hk.bits a, if_true, Sem.run_pure, Result.andThen_ok, MapKept.run_setObj_map _ hb, Nat.zero_add]
  obtain ⟨es', c', k1, k2⟩ := key
  have e : execOp ac.eval ⟨none, .mapUpdate t x i y, type, pos, after, guard⟩ = (do Instr.mapUpdate t (ac.eval x) (ac.eval i) (ac.eval y); pure .skip) := rfl
  unfold Oper.wp
  rw [e, hka.eval hx, hka.eval hi, hka.eval hy]
  simp only [AV.val_v, Sem.run_bind, k2, Result.andThen_ok, Sem.run_pure, Oper.upon_skip]
  have hs := MapKept.heap_set (o' := .map es' c') hb
  refine hK (.v undef) _ ⟨S.L, S.M, S.F, PH.one b (.map es' c') :: Rf, S.nx⟩ rfl ?_ (fun _ _ => Stab.refl _ _ _ _) (h es' c' k1)
  refine hw.swapR (w' := { w with heap := w.heap.setIfInBounds b (.map es' c') }) hR rfl rfl rfl (by simp) (fun b' hb' hn => hs.2 b' (fun e => ?_)) (fun b' u' e => ?_) (fun b' hb' => .inl fun e => ?_) S.L S.nx
  · subst e; rw [PH.one_self] at hn; cases hn
  · simp only [PH.one] at e
    split at e
    · rename_i hbb; cases e; subst hbb; exact hs.1
    · cases e
  · by_cases hbb : b' = b
    · subst hbb; rw [PH.one_self] at e; cases e
    · simp [PH.one, hbb] at hb'
end
end Go.Eng
