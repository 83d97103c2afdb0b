/- The engine, part 5: calls, memory of the call's own, and the walk that goes by itself. -/
import Derived.Test.YthdbmbabfngakaaE4
namespace Go.Eng
open Go Go.RowKit

/-! ### What a function does -/
def CallOk (P : Program) (f : FuncId) : Prop := ∃ fn, P.funcs[f]? = some fn ∧ fn.body.isSome = true ∧ (fn.name == "runtime.NumGoroutine") = false
def base0 (w : World) (F : PH) (R : List PH) : Base := ⟨w, F, fun b => ∃ r ∈ R, r b ≠ none⟩
structure In0 (w : World) (F : PH) (R : List PH) : Prop where
  f : F.In w
  r : ∀ r ∈ R, r.In w ∧ F.Disj r
  rr : R.Pairwise PH.Disj
/-- A function's contract: called with such arguments, where F never turns and R is lent to it, it returns such a value; F has grown, R has turned, and nothing else. -/
def Fn (P : Program) (f : FuncId) (args : List Value) (F : PH) (R : List PH) (Q : Value → PH → List PH → Prop) : Prop :=
  CallOk P f ∧ ∀ w, In0 w F R → Calls P f args.toArray w (fun e w' => ∃ v F' R', e = .returned v ∧ Q v F' R' ∧ Sat (base0 w F R) ⟨[], [], F', R', 0⟩ w')
theorem Fn.mono {P : Program} {f : FuncId} {args : List Value} {F : PH} {R : List PH} {Q Q' : Value → PH → List PH → Prop} (h : Fn P f args F R Q) (hq : ∀ v F' R', F.le F' → Q v F' R' → Q' v F' R') : Fn P f args F R Q' :=
  ⟨h.1, fun w hw => (h.2 w hw).mono fun _ _ ⟨v, F', R', e, q, s⟩ => ⟨v, F', R', e, hq v F' R' s.f0 q, s⟩⟩

section
variable {P : Program} {n : Nat} {C : Cx} {k : List KItem} {S : St} {all : Array Oper} {o : Oper} {l : List Oper} {st : Bool}

theorem heap_lt {w : World} {b : Nat} {o : Obj} (h : w.heap[b]? = some o) : b < w.heap.size := by
  rcases Nat.lt_or_ge b w.heap.size with hl | hl
  · exact hl
  · rw [Array.getElem?_eq_none hl] at h; cases h
theorem Sat.in0 {B : Base} {w : World} (hw : Sat B S w) {Rc Rf : List PH} (hr : S.R.Perm (Rc ++ Rf)) : In0 w S.F Rc := by
  have hsub : ∀ r ∈ Rc, r ∈ S.R := fun r h => hr.mem_iff.2 (List.mem_append_left _ h)
  refine ⟨hw.f, fun r h => ⟨(hw.r r (hsub r h)).1, (hw.r r (hsub r h)).2.1⟩, ?_⟩
  have := (hr.pairwise_iff (R := PH.Disj) (fun h b => (h b).symm)).1 hw.rr
  exact (List.pairwise_append.1 this).1
theorem Sat.behind {B : Base} {w w' : World} (hw : Sat B S w) {Rc Rf R' : List PH} {F' : PH} (hr : S.R.Perm (Rc ++ Rf)) (h' : Sat (base0 w S.F Rc) ⟨[], [], F', R', 0⟩ w') (L : KL) (nx : Nat) :
    Sat B ⟨L, S.M, F', R' ++ Rf, nx⟩ w' := by
  have hc : ∀ r ∈ Rc, r ∈ S.R := fun r h => hr.mem_iff.2 (List.mem_append_left _ h)
  have hf : ∀ r ∈ Rf, r ∈ S.R := fun r h => hr.mem_iff.2 (List.mem_append_right _ h)
  have hp := (hr.pairwise_iff (R := PH.Disj) (fun h b => (h b).symm)).1 hw.rr
  obtain ⟨hp1, hp2, hp3⟩ := List.pairwise_append.1 hp
  have hX : ∀ b, (∃ r ∈ Rc, r b ≠ none) → B.X b ∨ B.w.heap.size ≤ b := fun b ⟨r, h1, h2⟩ => (hw.r r (hc r h1)).2.2 b h2
  have hnew : ∀ b, F' b ≠ none → S.F b ≠ none ∨ (∃ r ∈ Rc, r b ≠ none) ∨ w.heap.size ≤ b := h'.fnew
  have hrnew : ∀ r ∈ R', ∀ b, r b ≠ none → (∃ r ∈ Rc, r b ≠ none) ∨ w.heap.size ≤ b := fun r h => (h'.r r h).2.2
  refine ⟨h'.f, fun o ho => ?_, hw.mm, fun r h => ?_, ?_, ?_, PH.le_trans hw.f0 h'.f0, fun b hb => ?_⟩
  · obtain ⟨m1, m2, m3, m4⟩ := hw.m o ho
    have hlt := heap_lt m1
    have hnx : ¬ ∃ r ∈ Rc, r o.b ≠ none := fun ⟨r, h1, h2⟩ => h2 (m3 r (hc r h1))
    refine ⟨(h'.late.block o.b hlt hnx).trans m1, ?_, fun r h => ?_, m4⟩
    · show F' o.b = none
      cases e : F' o.b with
      | none => rfl
      | some _ =>
        rcases hnew o.b (by rw [e]; exact fun h => by cases h) with h | h | h
        · exact absurd m2 h
        · exact absurd h hnx
        · omega
    · rcases List.mem_append.1 h with h | h
      · cases e : r o.b with
        | none => rfl
        | some _ =>
          rcases hrnew r h o.b (by rw [e]; exact fun h => by cases h) with h | h
          · exact absurd h hnx
          · omega
      · exact m3 r (hf r h)
  · rcases List.mem_append.1 h with h | h
    · obtain ⟨r1, r2, r3⟩ := h'.r r h
      refine ⟨r1, r2, fun b hb => ?_⟩
      rcases r3 b hb with h | h
      · exact hX b h
      · exact .inr (Nat.le_trans hw.late.size h)
    · obtain ⟨r1, r2, r3⟩ := hw.r r (hf r h)
      have hnx : ∀ b, r b ≠ none → ¬ ∃ r ∈ Rc, r b ≠ none := fun b hb ⟨r', h1, h2⟩ => by
        rcases hp3 r' h1 r h b with h | h
        · exact h2 h
        · exact hb h
      refine ⟨fun b u hb => ?_, fun b => ?_, r3⟩
      · have hn0 : r b ≠ none := by rw [hb]; exact fun h => by cases h
        exact (h'.late.block b (r1.lt hb) (hnx b hn0)).trans (r1 b u hb)
      · cases e : r b with
        | none => exact .inr rfl
        | some u =>
          refine .inl ?_
          have hn0 : r b ≠ none := by rw [e]; exact fun h => by cases h
          show F' b = none
          cases e' : F' b with
          | none => rfl
          | some _ =>
            rcases hnew b (by rw [e']; exact fun h => by cases h) with h | h | h
            · rcases r2 b with h' | h'
              · exact absurd h' h
              · exact absurd h' hn0
            · exact absurd h (hnx b hn0)
            · have := r1.lt e; exact absurd h (by omega)
  · refine List.pairwise_append.2 ⟨h'.rr, hp2, fun r h r' h2 b => ?_⟩
    cases e : r b with
    | none => exact .inl rfl
    | some u =>
      refine .inr ?_
      rcases hrnew r h b (by rw [e]; exact fun h => by cases h) with ⟨r'', h3, h4⟩ | h3
      · rcases hp3 r'' h3 r' h2 b with h5 | h5
        · exact absurd h5 h4
        · exact h5
      · cases e' : r' b with
        | none => rfl
        | some _ => have := (hw.r r' (hf r' h2)).1.lt e'; exact absurd h3 (by omega)
  · refine ⟨h'.late.os.trans hw.late.os, h'.late.tape.trans hw.late.tape, h'.late.output.trans hw.late.output, Nat.le_trans hw.late.size h'.late.size, fun i hi hx => ?_⟩
    refine (h'.late.block i (Nat.lt_of_lt_of_le hi hw.late.size) (fun hX' => ?_)).trans (hw.late.block i hi hx)
    rcases hX i hX' with h | h
    · exact hx h
    · omega
  · rcases hnew b hb with h | h | h
    · exact hw.fnew b h
    · exact .inr (hX b h)
    · exact .inr (.inr (Nat.le_trans hw.late.size h))

theorem Sat.setL {B : Base} {w : World} (h : Sat B S w) (L : KL) (nx : Nat) : Sat B ⟨L, S.M, S.F, S.R, nx⟩ w := ⟨h.f, h.m, h.mm, h.r, h.rr, h.late, h.f0, h.fnew⟩
/-! ### One operation -/
def dok (n : Nat) : Option Tmp → Bool
  | none => true
  | some d => decide (d < n)
theorem dok_lt {n : Nat} {d : Option Tmp} (h : dok n d = true) : ∀ t, d = some t → t < n := by
  rintro t rfl
  simpa [dok] using h
def isStore : Op → Bool
  | .store _ _ _ => true
  | _ => false
/-- What a later state still knows of an elder one's memory. -/
def Stab (S S' : St) : Prop := S.F.le S'.F ∧ ∀ i o, ownF S.M i = some o → ownF S'.M i = some o
theorem Stab.refl (S : St) (L : KL) (R : List PH) (nx : Nat) : Stab S ⟨L, S.M, S.F, R, nx⟩ := ⟨PH.le_refl _, fun _ _ h => h⟩
theorem Stab.grow (S : St) (L : KL) {F : PH} (R : List PH) (nx : Nat) (h : S.F.le F) : Stab S ⟨L, S.M, F, R, nx⟩ := ⟨h, fun _ _ h => h⟩
theorem ownF_append : ∀ {M M' : List Own} {i : Nat} {o : Own}, ownF M i = some o → ownF (M ++ M') i = some o
  | [], _, _, _, h => by cases h
  | x :: M, M', i, o, h => by
    simp only [ownF, List.cons_append] at h ⊢
    split at h
    · rename_i e; rw [if_pos e]; exact h
    · rename_i e; rw [if_neg e]; exact ownF_append h
theorem Stab.push (S : St) (L : KL) (m : Own) (R : List PH) (nx : Nat) : Stab S ⟨L, S.M ++ [m], S.F, R, nx⟩ := ⟨PH.le_refl _, fun _ _ h => ownF_append h⟩
/-- One operation (its guard aside), from a state on: it comes to a state of which κ holds; 'st': and it leaves what is known of the memory. -/
def Eff (P : Program) (n : Nat) (B : Base) (st : Bool) (o : Oper) (S : St) (κ : St → Prop) : Prop :=
  ∀ a w, Kn n S.L a → Sat B S w → ∀ (K : Act → World → Prop) (Q : Exit → Act → World → Prop),
    (∀ y w' S', S'.L = setk S.L o.dst y → Sat B S' w' → (st = true → isStore o.op = false → Stab S S') → κ S' → K (a.put o.dst y.val) w') → o.wp P a w K Q
theorem VC.eff (hg : o.guard = none) (hd : dok n o.dst = true) (h : Eff P n C.B st o S (VC P n C (.ops all l :: k))) : VC P n C (.ops all (o :: l) :: k) S :=
  fun a w ha hw => wpList_plain (P := P) (ops := all) (Q := mkq C.ret (semx P n C k).1 (semx P n C k).2) hg (fun K hK => h a w ha hw K _ fun _ w' _ h1 h2 _ h4 => hK _ _ (h4 _ w' (by rw [h1]; exact ha.put rfl (dok_lt hd)) h2))
theorem Eff.mono {B : Base} {κ κ' : St → Prop} (h : Eff P n B st o S κ) (hk : ∀ S, κ S → κ' S) : Eff P n B st o S κ' :=
  fun a w ha hw K Q hK => h a w ha hw K Q fun y w' S' h1 h2 h3 h4 => hK y w' S' h1 h2 h3 (hk _ h4)
/-- An operation that comes to a value; the world may have turned. -/
theorem Eff.value {B : Base} {κ : St → Prop}
    (h : ∀ a w, Kn n S.L a → Sat B S w → ∃ y w' M F R nx, (execOp a.eval o).run P w = .ok (.value y.val) w' ∧ Sat B ⟨S.L, M, F, R, nx⟩ w' ∧ Stab S ⟨setk S.L o.dst y, M, F, R, nx⟩ ∧ κ ⟨setk S.L o.dst y, M, F, R, nx⟩) : Eff P n B st o S κ := by
  intro a w ha hw K Q hK
  obtain ⟨y, w', M, F, R, nx, h1, h3, h4, h5⟩ := h a w ha hw
  unfold Oper.wp
  rw [h1, Oper.upon_value]
  exact hK y w' _ rfl (h3.setL _ _) (fun _ _ => h4) h5
theorem Eff.quiet {B : Base} {κ : St → Prop} {y : AV} (hq : qv P S o.op = some y) (h : κ { S with L := setk S.L o.dst y }) : Eff P n B st o S κ :=
  Eff.value fun _ w ha hw => ⟨y, w, S.M, S.F, S.R, S.nx, qv_run ha hw hq, hw, Stab.refl _ _ _ _, h⟩
/-- A new block of cells, the call's own. -/
theorem Sat.push {B : Base} {w : World} (hw : Sat B S w) (t : TypeId) (cs : List Value) (L : KL) (i nx : Nat) :
    Sat B ⟨L, S.M ++ [⟨i, w.heap.size, t, cs⟩], S.F, S.R, nx⟩ (w.alloc (.cells cs.toArray t)) := by
  have hk : ∀ b o, w.heap[b]? = some o → (w.alloc (.cells cs.toArray t)).heap[b]? = some o := fun b o h => (Below.heap_alloc w _ b (heap_lt h)).trans h
  have hn : ∀ F : PH, F.In w → F w.heap.size = none := fun F h => h.fresh
  refine ⟨fun b o h => hk _ _ (hw.f b o h), fun o ho => ?_, ?_, fun r h => ⟨fun b o e => hk _ _ ((hw.r r h).1 b o e), (hw.r r h).2⟩, hw.rr, ?_, hw.f0, hw.fnew⟩
  · rcases List.mem_append.1 ho with ho | ho
    · obtain ⟨m1, m2⟩ := hw.m o ho
      exact ⟨hk _ _ m1, m2⟩
    · obtain rfl := List.mem_singleton.1 ho
      exact ⟨by show (w.heap.push _)[w.heap.size]? = _; simp, hn _ hw.f, fun r h => hn _ (hw.r r h).1, .inr hw.late.size⟩
  · refine List.pairwise_append.2 ⟨hw.mm, List.pairwise_singleton _ _, fun o ho x hx => ?_⟩
    obtain rfl := List.mem_singleton.1 hx
    have := heap_lt (hw.m o ho).1
    show o.b ≠ w.heap.size
    omega
  · exact hw.late.trans ⟨rfl, rfl, rfl, by simp, fun k hk _ => Below.heap_alloc _ _ _ hk⟩
theorem Eff.alloc {B : Base} {κ : St → Prop} {t : TypeId} {D : TD} (ho : o.op = .alloc t) (ht : ty P t = some D)
    (h : ∀ b, κ ⟨setk S.L o.dst (.o S.nx b 0), S.M ++ [⟨S.nx, b, t, D.zero.cells.toList⟩], S.F, S.R, S.nx + 1⟩) : Eff P n B st o S κ := by
  refine Eff.value fun a w ha hw => ⟨.o S.nx w.heap.size 0, w.alloc (.cells D.zero.cells.toList.toArray t), _, _, _, _, ?_, hw.push t D.zero.cells.toList S.L S.nx (S.nx + 1), Stab.push _ _ _ _ _, h w.heap.size⟩
  obtain ⟨dst, op, type, pos, after, guard⟩ := o
  subst ho
  have e : execOp a.eval ⟨dst, .alloc t, type, pos, after, guard⟩ = (do pure (.value (← Instr.alloc t true (.tuple #[])))) := rfl
  rw [e]
  simp only [Instr.alloc, Sem.run_bind, ty_zero ht, Result.andThen_ok]
  simp only [newVar, newRow, newObj, Array.toArray_toList]
  rfl
theorem Eff.box {B : Base} {κ : St → Prop} {t : TypeId} {x : Operand} {y : AV} (ho : o.op = .box t x) (hx : evo S.L x = some y)
    (h : ∀ b, κ ⟨setk S.L o.dst (.o S.nx b 0), S.M ++ [⟨S.nx, b, t, y.val.cells.toList⟩], S.F, S.R, S.nx + 1⟩) : Eff P n B st o S κ := by
  refine Eff.value fun a w ha hw => ⟨.o S.nx w.heap.size 0, w.alloc (.cells y.val.cells.toList.toArray t), _, _, _, _, ?_, hw.push t y.val.cells.toList S.L S.nx (S.nx + 1), Stab.push _ _ _ _ _, h w.heap.size⟩
  obtain ⟨dst, op, type, pos, after, guard⟩ := o
  subst ho
  have e : execOp a.eval ⟨dst, .box t x, type, pos, after, guard⟩ = (do pure (.value (← Instr.box t (a.eval x)))) := rfl
  rw [e, ha.eval hx]
  simp only [Instr.box, newVar, newRow, newObj, Array.toArray_toList]
  rfl
/-- Own blocks in another order. -/
theorem Sat.permM {B : Base} {w : World} {M : List Own} (hw : Sat B S w) (hm : S.M.Perm M) : Sat B { S with M := M } w :=
  ⟨hw.f, fun o ho => hw.m o (hm.mem_iff.2 ho), (hm.pairwise_iff (fun h e => h e.symm)).1 hw.mm, hw.r, hw.rr, hw.late, hw.f0, hw.fnew⟩
theorem VC.permM {M : List Own} (hm : S.M.Perm M) (h : VC P n C k { S with M := M }) : VC P n C k S := fun a w ha hw => h a w ha (hw.permM hm)
theorem Sat.permR {B : Base} {w : World} {R : List PH} (hw : Sat B S w) (hm : S.R.Perm R) : Sat B { S with R := R } w :=
  ⟨hw.f, fun o ho => ⟨(hw.m o ho).1, (hw.m o ho).2.1, fun r hr => (hw.m o ho).2.2.1 r (hm.mem_iff.2 hr), (hw.m o ho).2.2.2⟩, hw.mm, fun r hr => hw.r r (hm.mem_iff.2 hr), (hm.pairwise_iff (fun h b => (h b).symm)).1 hw.rr, hw.late, hw.f0, hw.fnew⟩
theorem VC.permR {R : List PH} (hm : S.R.Perm R) (h : VC P n C k { S with R := R }) : VC P n C k S := fun a w ha hw => h a w ha (hw.permR hm)
/-- What is the call's own turns to what never turns again. -/
theorem Sat.freeze {B : Base} {w : World} {m : Own} {M : List Own} (hw : Sat B S w) (hm : S.M = m :: M) (L : KL) (nx : Nat) :
    ∃ F', S.F.le F' ∧ F' m.b = some (.cells m.cs.toArray m.t (0, 0)) ∧ Sat B ⟨L, M, F', S.R, nx⟩ w := by
  obtain ⟨m1, m2, m3, m4⟩ := hw.m m (by rw [hm]; exact List.mem_cons_self)
  have hmm := hw.mm
  rw [hm, List.pairwise_cons] at hmm
  refine ⟨S.F.put m.b (.cells m.cs.toArray m.t (0, 0)), PH.le_put m2, PH.put_self _ _ _, ?_⟩
  refine ⟨fun b o h => ?_, fun o ho => ?_, hmm.2, fun r h => ⟨(hw.r r h).1, fun b => ?_, (hw.r r h).2.2⟩, hw.rr, hw.late, PH.le_trans hw.f0 (PH.le_put m2), fun b hb => ?_⟩
  · have h : (if b = m.b then some (.cells m.cs.toArray m.t (0, 0)) else S.F b) = some o := h
    by_cases e : b = m.b
    · rw [if_pos e] at h; cases h; rw [e]; exact m1
    · rw [if_neg e] at h; exact hw.f b o h
  · obtain ⟨k1, k2, k3⟩ := hw.m o (by rw [hm]; exact List.mem_cons_of_mem _ ho)
    refine ⟨k1, ?_, k3⟩
    show S.F.put m.b _ o.b = none
    unfold PH.put
    rw [if_neg (fun e => hmm.1 o ho e.symm)]
    exact k2
  · by_cases e : b = m.b
    · subst e; exact .inr (m3 r h)
    · rcases (hw.r r h).2.1 b with h' | h'
      · refine .inl ?_
        show S.F.put m.b _ b = none
        unfold PH.put
        rw [if_neg e]
        exact h'
      · exact .inr h'
  · by_cases e : b = m.b
    · subst e; exact .inr m4
    · refine hw.fnew b ?_
      have : S.F.put m.b (.cells m.cs.toArray m.t (0, 0)) b ≠ none := hb
      unfold PH.put at this
      rw [if_neg e] at this
      exact this
theorem VC.freeze {m : Own} {M : List Own} (hm : S.M.Perm (m :: M)) (h : ∀ F', S.F.le F' → F' m.b = some (.cells m.cs.toArray m.t (0, 0)) → VC P n C k { S with M := M, F := F' }) : VC P n C k S := by
  intro a w ha hw
  obtain ⟨F', h1, h2, h3⟩ := (hw.permM hm).freeze rfl S.L S.nx
  exact h F' h1 h2 a w ha h3
/-- A store into a block of the call's own. -/
def updM : List Own → Nat → List Value → List Own
  | [], _, _ => []
  | o :: M, i, cs => if o.i = i then { o with cs := cs } :: M else o :: updM M i cs
end
end Go.Eng
