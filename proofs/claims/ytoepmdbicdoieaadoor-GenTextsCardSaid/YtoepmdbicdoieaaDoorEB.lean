/- My texts E5 E6 E7 E8, in one. -/
import Derived.Test.YtoepmdbicdoieaaDoorEA
import Derived.Laws.CopyRow
import Derived.Laws.Tables
/- The engine, part 5: calls, memory of the call's own, and the walk that goes by itself. -/
namespace Go.Eng
open Go Go.RowKit

/-! ### What a function does -/
def CallOk (P : Program) (f : FuncId) : Prop := ∃ fn, P.funcs[f]? = some fn ∧ fn.body.isSome = true ∧ (fn.name == "runtime.NumGoroutine") = false
def base0 (w : World) (F : PH) (R : List PH) : Base := ⟨w, F, fun b => ∃ r ∈ R, r b ≠ none⟩
structure In0 (w : World) (F : PH) (R : List PH) : Prop where
  f : F.In w
  r : ∀ r ∈ R, r.In w ∧ F.Disj r
  rr : R.Pairwise PH.Disj
/-- A function's contract: called with such arguments, where F never turns and R is lent to it, it returns such a value; F has grown, R has turned, and nothing else. -/
def Fn (P : Program) (f : FuncId) (args : List Value) (F : PH) (R : List PH) (Q : Value → PH → List PH → Prop) : Prop :=
  CallOk P f ∧ ∀ w, In0 w F R → Calls P f args.toArray w (fun e w' => ∃ v F' R', e = .returned v ∧ Q v F' R' ∧ Sat (base0 w F R) ⟨[], [], F', R', 0⟩ w')
theorem Fn.mono {P : Program} {f : FuncId} {args : List Value} {F : PH} {R : List PH} {Q Q' : Value → PH → List PH → Prop} (h : Fn P f args F R Q) (hq : ∀ v F' R', F.le F' → Q v F' R' → Q' v F' R') : Fn P f args F R Q' :=
  ⟨h.1, fun w hw => (h.2 w hw).mono fun _ _ ⟨v, F', R', e, q, s⟩ => ⟨v, F', R', e, hq v F' R' s.f0 q, s⟩⟩

section
variable {P : Program} {n : Nat} {C : Cx} {k : List KItem} {S : St} {all : Array Oper} {o : Oper} {l : List Oper} {st : Bool}

theorem heap_lt {w : World} {b : Nat} {o : Obj} (h : w.heap[b]? = some o) : b < w.heap.size := by
  rcases Nat.lt_or_ge b w.heap.size with hl | hl
  · exact hl
  · rw [Array.getElem?_eq_none hl] at h; cases h
theorem Sat.in0 {B : Base} {w : World} (hw : Sat B S w) {Rc Rf : List PH} (hr : S.R.Perm (Rc ++ Rf)) : In0 w S.F Rc := by
  have hsub : ∀ r ∈ Rc, r ∈ S.R := fun r h => hr.mem_iff.2 (List.mem_append_left _ h)
  refine ⟨hw.f, fun r h => ⟨(hw.r r (hsub r h)).1, (hw.r r (hsub r h)).2.1⟩, ?_⟩
  have := (hr.pairwise_iff (R := PH.Disj) (fun h b => (h b).symm)).1 hw.rr
  exact (List.pairwise_append.1 this).1
theorem Sat.behind {B : Base} {w w' : World} (hw : Sat B S w) {Rc Rf R' : List PH} {F' : PH} (hr : S.R.Perm (Rc ++ Rf)) (h' : Sat (base0 w S.F Rc) ⟨[], [], F', R', 0⟩ w') (L : KL) (nx : Nat) :
    Sat B ⟨L, S.M, F', R' ++ Rf, nx⟩ w' := by
  have hc : ∀ r ∈ Rc, r ∈ S.R := fun r h => hr.mem_iff.2 (List.mem_append_left _ h)
  have hf : ∀ r ∈ Rf, r ∈ S.R := fun r h => hr.mem_iff.2 (List.mem_append_right _ h)
  have hp := (hr.pairwise_iff (R := PH.Disj) (fun h b => (h b).symm)).1 hw.rr
  obtain ⟨hp1, hp2, hp3⟩ := List.pairwise_append.1 hp
  have hX : ∀ b, (∃ r ∈ Rc, r b ≠ none) → B.X b ∨ B.w.heap.size ≤ b := fun b ⟨r, h1, h2⟩ => (hw.r r (hc r h1)).2.2 b h2
  have hnew : ∀ b, F' b ≠ none → S.F b ≠ none ∨ (∃ r ∈ Rc, r b ≠ none) ∨ w.heap.size ≤ b := h'.fnew
  have hrnew : ∀ r ∈ R', ∀ b, r b ≠ none → (∃ r ∈ Rc, r b ≠ none) ∨ w.heap.size ≤ b := fun r h => (h'.r r h).2.2
  refine ⟨h'.f, fun o ho => ?_, hw.mm, fun r h => ?_, ?_, ?_, PH.le_trans hw.f0 h'.f0, fun b hb => ?_⟩
  · obtain ⟨m1, m2, m3, m4⟩ := hw.m o ho
    have hlt := heap_lt m1
    have hnx : ¬ ∃ r ∈ Rc, r o.b ≠ none := fun ⟨r, h1, h2⟩ => h2 (m3 r (hc r h1))
    refine ⟨(h'.late.block o.b hlt hnx).trans m1, ?_, fun r h => ?_, m4⟩
    · show F' o.b = none
      cases e : F' o.b with
      | none => rfl
      | some _ =>
        rcases hnew o.b (by rw [e]; exact fun h => by cases h) with h | h | h
        · exact absurd m2 h
        · exact absurd h hnx
        · omega
    · rcases List.mem_append.1 h with h | h
      · cases e : r o.b with
        | none => rfl
        | some _ =>
          rcases hrnew r h o.b (by rw [e]; exact fun h => by cases h) with h | h
          · exact absurd h hnx
          · omega
      · exact m3 r (hf r h)
  · rcases List.mem_append.1 h with h | h
    · obtain ⟨r1, r2, r3⟩ := h'.r r h
      refine ⟨r1, r2, fun b hb => ?_⟩
      rcases r3 b hb with h | h
      · exact hX b h
      · exact .inr (Nat.le_trans hw.late.size h)
    · obtain ⟨r1, r2, r3⟩ := hw.r r (hf r h)
      have hnx : ∀ b, r b ≠ none → ¬ ∃ r ∈ Rc, r b ≠ none := fun b hb ⟨r', h1, h2⟩ => by
        rcases hp3 r' h1 r h b with h | h
        · exact h2 h
        · exact hb h
      refine ⟨fun b u hb => ?_, fun b => ?_, r3⟩
      · have hn0 : r b ≠ none := by rw [hb]; exact fun h => by cases h
        exact (h'.late.block b (r1.lt hb) (hnx b hn0)).trans (r1 b u hb)
      · cases e : r b with
        | none => exact .inr rfl
        | some u =>
          refine .inl ?_
          have hn0 : r b ≠ none := by rw [e]; exact fun h => by cases h
          show F' b = none
          cases e' : F' b with
          | none => rfl
          | some _ =>
            rcases hnew b (by rw [e']; exact fun h => by cases h) with h | h | h
            · rcases r2 b with h' | h'
              · exact absurd h' h
              · exact absurd h' hn0
            · exact absurd h (hnx b hn0)
            · have := r1.lt e; exact absurd h (by omega)
  · refine List.pairwise_append.2 ⟨h'.rr, hp2, fun r h r' h2 b => ?_⟩
    cases e : r b with
    | none => exact .inl rfl
    | some u =>
      refine .inr ?_
      rcases hrnew r h b (by rw [e]; exact fun h => by cases h) with ⟨r'', h3, h4⟩ | h3
      · rcases hp3 r'' h3 r' h2 b with h5 | h5
        · exact absurd h5 h4
        · exact h5
      · cases e' : r' b with
        | none => rfl
        | some _ => have := (hw.r r' (hf r' h2)).1.lt e'; exact absurd h3 (by omega)
  · refine ⟨h'.late.os.trans hw.late.os, h'.late.tape.trans hw.late.tape, h'.late.output.trans hw.late.output, Nat.le_trans hw.late.size h'.late.size, fun i hi hx => ?_⟩
    refine (h'.late.block i (Nat.lt_of_lt_of_le hi hw.late.size) (fun hX' => ?_)).trans (hw.late.block i hi hx)
    rcases hX i hX' with h | h
    · exact hx h
    · omega
  · rcases hnew b hb with h | h | h
    · exact hw.fnew b h
    · exact .inr (hX b h)
    · exact .inr (.inr (Nat.le_trans hw.late.size h))

theorem Sat.setL {B : Base} {w : World} (h : Sat B S w) (L : KL) (nx : Nat) : Sat B ⟨L, S.M, S.F, S.R, nx⟩ w := ⟨h.f, h.m, h.mm, h.r, h.rr, h.late, h.f0, h.fnew⟩
/-! ### One operation -/
def dok (n : Nat) : Option Tmp → Bool
  | none => true
  | some d => decide (d < n)
theorem dok_lt {n : Nat} {d : Option Tmp} (h : dok n d = true) : ∀ t, d = some t → t < n := by
  rintro t rfl
  simpa [dok] using h
def isStore : Op → Bool
  | .store _ _ _ => true
  | _ => false
/-- What a later state still knows of an elder one's memory. -/
def Stab (S S' : St) : Prop := S.F.le S'.F ∧ ∀ i o, ownF S.M i = some o → ownF S'.M i = some o
theorem Stab.refl (S : St) (L : KL) (R : List PH) (nx : Nat) : Stab S ⟨L, S.M, S.F, R, nx⟩ := ⟨PH.le_refl _, fun _ _ h => h⟩
theorem Stab.grow (S : St) (L : KL) {F : PH} (R : List PH) (nx : Nat) (h : S.F.le F) : Stab S ⟨L, S.M, F, R, nx⟩ := ⟨h, fun _ _ h => h⟩
theorem ownF_append : ∀ {M M' : List Own} {i : Nat} {o : Own}, ownF M i = some o → ownF (M ++ M') i = some o
  | [], _, _, _, h => by cases h
  | x :: M, M', i, o, h => by
    simp only [ownF, List.cons_append] at h ⊢
    split at h
    · rename_i e; rw [if_pos e]; exact h
    · rename_i e; rw [if_neg e]; exact ownF_append h
theorem Stab.push (S : St) (L : KL) (m : Own) (R : List PH) (nx : Nat) : Stab S ⟨L, S.M ++ [m], S.F, R, nx⟩ := ⟨PH.le_refl _, fun _ _ h => ownF_append h⟩
/-- One operation (its guard aside), from a state on: it comes to a state of which κ holds; 'st': and it leaves what is known of the memory. -/
def Eff (P : Program) (n : Nat) (B : Base) (st : Bool) (o : Oper) (S : St) (κ : St → Prop) : Prop :=
  ∀ a w, Kn n S.L a → Sat B S w → ∀ (K : Act → World → Prop) (Q : Exit → Act → World → Prop),
    (∀ y w' S', S'.L = setk S.L o.dst y → Sat B S' w' → (st = true → isStore o.op = false → Stab S S') → κ S' → K (a.put o.dst y.val) w') → o.wp P a w K Q
theorem VC.eff (hg : o.guard = none) (hd : dok n o.dst = true) (h : Eff P n C.B st o S (VC P n C (.ops all l :: k))) : VC P n C (.ops all (o :: l) :: k) S :=
  fun a w ha hw => wpList_plain (P := P) (ops := all) (Q := mkq C.ret (semx P n C k).1 (semx P n C k).2) hg (fun K hK => h a w ha hw K _ fun _ w' _ h1 h2 _ h4 => hK _ _ (h4 _ w' (by rw [h1]; exact ha.put rfl (dok_lt hd)) h2))
theorem Eff.mono {B : Base} {κ κ' : St → Prop} (h : Eff P n B st o S κ) (hk : ∀ S, κ S → κ' S) : Eff P n B st o S κ' :=
  fun a w ha hw K Q hK => h a w ha hw K Q fun y w' S' h1 h2 h3 h4 => hK y w' S' h1 h2 h3 (hk _ h4)
/-- An operation that comes to a value; the world may have turned. -/
theorem Eff.value {B : Base} {κ : St → Prop}
    (h : ∀ a w, Kn n S.L a → Sat B S w → ∃ y w' M F R nx, (execOp a.eval o).run P w = .ok (.value y.val) w' ∧ Sat B ⟨S.L, M, F, R, nx⟩ w' ∧ Stab S ⟨setk S.L o.dst y, M, F, R, nx⟩ ∧ κ ⟨setk S.L o.dst y, M, F, R, nx⟩) : Eff P n B st o S κ := by
  intro a w ha hw K Q hK
  obtain ⟨y, w', M, F, R, nx, h1, h3, h4, h5⟩ := h a w ha hw
  unfold Oper.wp
  rw [h1, Oper.upon_value]
  exact hK y w' _ rfl (h3.setL _ _) (fun _ _ => h4) h5
theorem Eff.quiet {B : Base} {κ : St → Prop} {y : AV} (hq : qv P S o.op = some y) (h : κ { S with L := setk S.L o.dst y }) : Eff P n B st o S κ :=
  Eff.value fun _ w ha hw => ⟨y, w, S.M, S.F, S.R, S.nx, qv_run ha hw hq, hw, Stab.refl _ _ _ _, h⟩
/-- A new block of cells, the call's own. -/
theorem Sat.push {B : Base} {w : World} (hw : Sat B S w) (t : TypeId) (cs : List Value) (L : KL) (i nx : Nat) :
    Sat B ⟨L, S.M ++ [⟨i, w.heap.size, t, cs⟩], S.F, S.R, nx⟩ (w.alloc (.cells cs.toArray t)) := by
  have hk : ∀ b o, w.heap[b]? = some o → (w.alloc (.cells cs.toArray t)).heap[b]? = some o := fun b o h => (Below.heap_alloc w _ b (heap_lt h)).trans h
  have hn : ∀ F : PH, F.In w → F w.heap.size = none := fun F h => h.fresh
  refine ⟨fun b o h => hk _ _ (hw.f b o h), fun o ho => ?_, ?_, fun r h => ⟨fun b o e => hk _ _ ((hw.r r h).1 b o e), (hw.r r h).2⟩, hw.rr, ?_, hw.f0, hw.fnew⟩
  · rcases List.mem_append.1 ho with ho | ho
    · obtain ⟨m1, m2⟩ := hw.m o ho
      exact ⟨hk _ _ m1, m2⟩
    · obtain rfl := List.mem_singleton.1 ho
      exact ⟨by show (w.heap.push _)[w.heap.size]? = _; simp, hn _ hw.f, fun r h => hn _ (hw.r r h).1, .inr hw.late.size⟩
  · refine List.pairwise_append.2 ⟨hw.mm, List.pairwise_singleton _ _, fun o ho x hx => ?_⟩
    obtain rfl := List.mem_singleton.1 hx
    have := heap_lt (hw.m o ho).1
    show o.b ≠ w.heap.size
    omega
  · exact hw.late.trans ⟨rfl, rfl, rfl, by simp, fun k hk _ => Below.heap_alloc _ _ _ hk⟩
theorem Eff.alloc {B : Base} {κ : St → Prop} {t : TypeId} {D : TD} (ho : o.op = .alloc t) (ht : ty P t = some D)
    (h : ∀ b, κ ⟨setk S.L o.dst (.o S.nx b 0), S.M ++ [⟨S.nx, b, t, D.zero.cells.toList⟩], S.F, S.R, S.nx + 1⟩) : Eff P n B st o S κ := by
  refine Eff.value fun a w ha hw => ⟨.o S.nx w.heap.size 0, w.alloc (.cells D.zero.cells.toList.toArray t), _, _, _, _, ?_, hw.push t D.zero.cells.toList S.L S.nx (S.nx + 1), Stab.push _ _ _ _ _, h w.heap.size⟩
  obtain ⟨dst, op, type, pos, after, guard⟩ := o
  subst ho
  have e : execOp a.eval ⟨dst, .alloc t, type, pos, after, guard⟩ = (do pure (.value (← Instr.alloc t true (.tuple #[])))) := rfl
  rw [e]
  simp only [Instr.alloc, Sem.run_bind, ty_zero ht, Result.andThen_ok]
  simp only [newVar, newRow, newObj, Array.toArray_toList]
  rfl
theorem Eff.box {B : Base} {κ : St → Prop} {t : TypeId} {x : Operand} {y : AV} (ho : o.op = .box t x) (hx : evo S.L x = some y)
    (h : ∀ b, κ ⟨setk S.L o.dst (.o S.nx b 0), S.M ++ [⟨S.nx, b, t, y.val.cells.toList⟩], S.F, S.R, S.nx + 1⟩) : Eff P n B st o S κ := by
  refine Eff.value fun a w ha hw => ⟨.o S.nx w.heap.size 0, w.alloc (.cells y.val.cells.toList.toArray t), _, _, _, _, ?_, hw.push t y.val.cells.toList S.L S.nx (S.nx + 1), Stab.push _ _ _ _ _, h w.heap.size⟩
  obtain ⟨dst, op, type, pos, after, guard⟩ := o
  subst ho
  have e : execOp a.eval ⟨dst, .box t x, type, pos, after, guard⟩ = (do pure (.value (← Instr.box t (a.eval x)))) := rfl
  rw [e, ha.eval hx]
  simp only [Instr.box, newVar, newRow, newObj, Array.toArray_toList]
  rfl
/-- Own blocks in another order. -/
theorem Sat.permM {B : Base} {w : World} {M : List Own} (hw : Sat B S w) (hm : S.M.Perm M) : Sat B { S with M := M } w :=
  ⟨hw.f, fun o ho => hw.m o (hm.mem_iff.2 ho), (hm.pairwise_iff (fun h e => h e.symm)).1 hw.mm, hw.r, hw.rr, hw.late, hw.f0, hw.fnew⟩
theorem VC.permM {M : List Own} (hm : S.M.Perm M) (h : VC P n C k { S with M := M }) : VC P n C k S := fun a w ha hw => h a w ha (hw.permM hm)
theorem Sat.permR {B : Base} {w : World} {R : List PH} (hw : Sat B S w) (hm : S.R.Perm R) : Sat B { S with R := R } w :=
  ⟨hw.f, fun o ho => ⟨(hw.m o ho).1, (hw.m o ho).2.1, fun r hr => (hw.m o ho).2.2.1 r (hm.mem_iff.2 hr), (hw.m o ho).2.2.2⟩, hw.mm, fun r hr => hw.r r (hm.mem_iff.2 hr), (hm.pairwise_iff (fun h b => (h b).symm)).1 hw.rr, hw.late, hw.f0, hw.fnew⟩
theorem VC.permR {R : List PH} (hm : S.R.Perm R) (h : VC P n C k { S with R := R }) : VC P n C k S := fun a w ha hw => h a w ha (hw.permR hm)
/-- What is the call's own turns to what never turns again. -/
theorem Sat.freeze {B : Base} {w : World} {m : Own} {M : List Own} (hw : Sat B S w) (hm : S.M = m :: M) (L : KL) (nx : Nat) :
    ∃ F', S.F.le F' ∧ F' m.b = some (.cells m.cs.toArray m.t (0, 0)) ∧ Sat B ⟨L, M, F', S.R, nx⟩ w := by
  obtain ⟨m1, m2, m3, m4⟩ := hw.m m (by rw [hm]; exact List.mem_cons_self)
  have hmm := hw.mm
  rw [hm, List.pairwise_cons] at hmm
  refine ⟨S.F.put m.b (.cells m.cs.toArray m.t (0, 0)), PH.le_put m2, PH.put_self _ _ _, ?_⟩
  refine ⟨fun b o h => ?_, fun o ho => ?_, hmm.2, fun r h => ⟨(hw.r r h).1, fun b => ?_, (hw.r r h).2.2⟩, hw.rr, hw.late, PH.le_trans hw.f0 (PH.le_put m2), fun b hb => ?_⟩
  · have h : (if b = m.b then some (.cells m.cs.toArray m.t (0, 0)) else S.F b) = some o := h
    by_cases e : b = m.b
    · rw [if_pos e] at h; cases h; rw [e]; exact m1
    · rw [if_neg e] at h; exact hw.f b o h
  · obtain ⟨k1, k2, k3⟩ := hw.m o (by rw [hm]; exact List.mem_cons_of_mem _ ho)
    refine ⟨k1, ?_, k3⟩
    show S.F.put m.b _ o.b = none
    unfold PH.put
    rw [if_neg (fun e => hmm.1 o ho e.symm)]
    exact k2
  · by_cases e : b = m.b
    · subst e; exact .inr (m3 r h)
    · rcases (hw.r r h).2.1 b with h' | h'
      · refine .inl ?_
        show S.F.put m.b _ b = none
        unfold PH.put
        rw [if_neg e]
        exact h'
      · exact .inr h'
  · by_cases e : b = m.b
    · subst e; exact .inr m4
    · refine hw.fnew b ?_
      have : S.F.put m.b (.cells m.cs.toArray m.t (0, 0)) b ≠ none := hb
      unfold PH.put at this
      rw [if_neg e] at this
      exact this
theorem VC.freeze {m : Own} {M : List Own} (hm : S.M.Perm (m :: M)) (h : ∀ F', S.F.le F' → F' m.b = some (.cells m.cs.toArray m.t (0, 0)) → VC P n C k { S with M := M, F := F' }) : VC P n C k S := by
  intro a w ha hw
  obtain ⟨F', h1, h2, h3⟩ := (hw.permM hm).freeze rfl S.L S.nx
  exact h F' h1 h2 a w ha h3
/-- A store into a block of the call's own. -/
def updM : List Own → Nat → List Value → List Own
  | [], _, _ => []
  | o :: M, i, cs => if o.i = i then { o with cs := cs } :: M else o :: updM M i cs
end
end Go.Eng

/- The engine, part 6: stores into blocks of the call's own, values that are built, calls, and where a walk ends. -/
namespace Go.Eng
open Go Go.RowKit

/-- A value's cells, by its type. -/
def vcs (D : TD) (v : Value) : Option (List Value) :=
  if isAggD D.d = true then (match v with
    | .agg cs => if cs.toList.length = D.size ∧ cs.toList.all Value.oneCell' = true then some cs.toList else none
    | _ => none)
  else if D.size = 1 ∧ v.oneCell' = true then some [v] else none
def wr (cs : List Value) (off : Nat) (vs : List Value) : List Value := cs.take off ++ vs ++ cs.drop (off + vs.length)
theorem cells_one {v : Value} (h : v.oneCell' = true) : v.cells = #[v] := by cases v <;> first | rfl | cases h
theorem vcs_cells {D : TD} {v : Value} {vs : List Value} (h : vcs D v = some vs) : v.cells.toList = vs ∧ vs.length = D.size ∧ ∀ x ∈ vs, x.oneCell' = true := by
  unfold vcs at h
  split at h
  · split at h
    · split at h
      · rename_i hc
        cases h
        exact ⟨rfl, hc.1, fun x hx => (List.all_eq_true.1 hc.2) x hx⟩
      · cases h
    · cases h
  · split at h
    · rename_i hc
      cases h
      exact ⟨by rw [cells_one hc.2], by simp [hc.1], by simp [hc.2]⟩
    · cases h
theorem foldl_zip (off : Nat) : ∀ (l : List Value) (k : Nat) (cs : List Value), off + k + l.length ≤ cs.length →
    (l.zipIdx k).foldl (fun (cs : List Value) (p : Value × Nat) => cs.set (off + p.2) p.1) cs = cs.take (off + k) ++ l ++ cs.drop (off + k + l.length)
  | [], k, cs, _ => by simp
  | v :: l, k, cs, h => by
    simp only [List.length_cons] at h
    simp only [List.zipIdx_cons, List.foldl_cons]
    rw [foldl_zip off l (k + 1) (cs.set (off + k) v) (by simp; omega)]
    have e := list_seg_step cs (off + k) v l (by omega)
    rw [List.length_cons, show off + (k + 1) = off + k + 1 from rfl]
    exact e
theorem foldl_arr (off : Nat) (l : List (Value × Nat)) : ∀ (cs : List Value), l.foldl (fun (cs : Array Value) (p : Value × Nat) => cs.setIfInBounds (off + p.2) p.1) cs.toArray = (l.foldl (fun (cs : List Value) (p : Value × Nat) => cs.set (off + p.2) p.1) cs).toArray := by
  induction l with
  | nil => intro cs; rfl
  | cons p l ih => intro cs; simp only [List.foldl_cons]; rw [← ih]; simp
def fillS (pl : Nat → Option (Nat × TD)) : List (Nat × Value) → List Value → Option (List Value)
  | [], cs => some cs
  | (i, v) :: rest, cs => match pl i with
    | none => none
    | some (off, D) => match vcs D v with
      | none => none
      | some vs => if off + D.size ≤ cs.length then fillS pl rest (wr cs off vs) else none
theorem fill_run (pl : Nat → Option (Nat × TD)) (place : Nat → Option (Nat × Nat)) (hp : ∀ i off D, pl i = some (off, D) → place i = some (off, D.size)) : ∀ (parts : List (Nat × Value)) (cs r : List Value),
    fillS pl parts cs = some r → Instr.fill place cs.toArray parts = some r.toArray
  | [], cs, r, h => by simp only [fillS, Option.some.injEq] at h; subst h; rfl
  | (i, v) :: rest, cs, r, h => by
    simp only [fillS] at h
    split at h
    · cases h
    · rename_i off D hD
      split at h
      · cases h
      · rename_i vs hv
        obtain ⟨h1, h2, h3⟩ := vcs_cells hv
        split at h
        · rename_i hl
          have ih := fill_run pl place hp rest _ _ h
          have hsz : v.cells.size = D.size := by rw [← h2, ← h1]; simp
          simp only [Instr.fill, hp i off D hD, hsz]
          rw [if_neg (by simp; omega), ← ih]
          congr 1
          have e1 : v.cells.zipIdx.foldl (fun cs (x : Value × Nat) => cs.setIfInBounds (off + x.2) x.1) cs.toArray = (wr cs off vs).toArray := by
            rw [← Array.foldl_toList, Array.toList_zipIdx, foldl_arr, h1]
            rw [foldl_zip off vs 0 cs (by omega)]
            rfl
          exact e1
        · cases h
def partsv (S : St) : List (Nat × Operand) → Option (List (Nat × Value))
  | [] => some []
  | (i, x) :: l => match evo S.L x, partsv S l with
    | some y, some ys => some ((i, y.val) :: ys)
    | _, _ => none
/-- A struct or an array that is built. -/
def bldv (P : Program) (S : St) (t : TypeId) (parts : Array (Nat × Operand)) : Option AV :=
  match ty P t, partsv S parts.toList with
  | some ⟨.struct fs, _, _, z⟩, some ps => if fs.toList.all (fun f => (ty P f.type).isSome) = true then (match fillS (fdAt P t) ps z.cells.toList with
    | some r => some (.v (.agg r.toArray))
    | none => none) else none
  | _, _ => none
/-- A row of elements that is built: all of them told, one behind the other. -/
def bslv (P : Program) (S : St) (t : TypeId) (len : Nat) (parts : Array (Nat × Operand)) : Option (TypeId × List Value) :=
  match ty P t with
  | some ⟨.slice e, _, _, _⟩ => (match ty P e, partsv S parts.toList with
    | some D, some ps => if len * D.size ≤ 1000 ∧ 0 < D.zero.cells.toList.length then
        (match fillS (fun i => some (i * D.size, D)) ps ((List.range (len * D.size)).map fun i => D.zero.cells.toList.getD (i % D.zero.cells.toList.length) undef) with
        | some r => some (e, r)
        | none => none) else none
    | _, _ => none)
  | _ => none

section
variable {P : Program} {n : Nat} {C : Cx} {k : List KItem} {S : St} {all : Array Oper} {o : Oper} {l : List Oper} {st : Bool}

theorem partsv_run {a : Act} (ha : Kn n S.L a) : ∀ {l : List (Nat × Operand)} {r : List (Nat × Value)}, partsv S l = some r → l.map (fun p => (p.1, a.eval p.2)) = r
  | [], r, h => by simp only [partsv, Option.some.injEq] at h; subst h; rfl
  | (i, x) :: l, r, h => by
    simp only [partsv] at h
    split at h
    · rename_i h1 h2
      cases h
      simp [ha.eval h1, partsv_run ha h2]
    · cases h
theorem places_ok {P : Program} : ∀ (l : List Field), l.all (fun f => (ty P f.type).isSome) = true →
    l.mapM (fun f => (P.info? f.type).map fun i => (f.offset, i.size)) = some (l.map fun f => (f.offset, ((ty P f.type).map (·.size)).getD 0))
  | [], _ => rfl
  | f :: l, h => by
    simp only [List.all_cons, Bool.and_eq_true] at h
    obtain ⟨D, hD⟩ := Option.isSome_iff_exists.1 h.1
    obtain ⟨_, i, hi, hs, _⟩ := ty_some hD
    simp [List.mapM_cons, hi, places_ok l h.2, hD, hs]
theorem bldv_run {a : Act} {w : World} (ha : Kn n S.L a) {t : TypeId} {parts : Array (Nat × Operand)} {y : AV} (h : bldv P S t parts = some y) :
    (Instr.build t (parts.map fun (i, x) => (i, a.eval x))).run P w = .ok y.val w := by
  unfold bldv at h
  split at h
  · rename_i fs _ _ z ps ht hps
    split at h
    · rename_i hall
      split at h
      · rename_i r hr
        cases h
        refine run_build w t _ _ ?_
        obtain ⟨hu, i, hi, _, _, hz⟩ := ty_some ht
        unfold Program.built
        simp only [hi, hu, hz, places_ok _ hall]
        have hp := partsv_run ha hps
        have e : (parts.map fun (i, x) => (i, a.eval x)).toList = ps := by rw [Array.toList_map]; exact hp
        rw [e]
        have := fill_run (fdAt P t) (fun x => (fs.toList.map fun f => (f.offset, ((ty P f.type).map (·.size)).getD 0)).toArray[x]?) (by
          intro i off D hD
          obtain ⟨fs', fd, g1, g2, g3, g4⟩ := fdAt_run hD
          rw [hu] at g1
          cases g1
          simp [g2, g3, g4]) ps z.cells.toList r hr
        rw [Array.toArray_toList] at this
        exact this
      · cases h
    · cases h
  · cases h
theorem bslv_run {a : Act} {w : World} (ha : Kn n S.L a) {t : TypeId} {len : Nat} {parts : Array (Nat × Operand)} {e : TypeId} {cs : List Value} (h : bslv P S t len parts = some (e, cs)) :
    (Instr.buildSlice t len (parts.map fun (i, x) => (i, a.eval x))).run P w = .ok (.slice (some ⟨w.heap.size, 0, none⟩) len len) (w.alloc (.cells cs.toArray e)) := by
  unfold bslv at h
  split at h
  · rename_i e' _ _ _ ht
    split at h
    · rename_i D ps hD hps
      split at h
      · rename_i hlen
        split at h
        · rename_i r hr
          cases h
          have hp := partsv_run ha hps
          have ee : (parts.map fun (i, x) => (i, a.eval x)).toList = ps := by rw [Array.toList_map]; exact hp
          have hf := fill_run (fun i => some (i * D.size, D)) (fun i => some (i * D.size, D.size)) (by rintro i off D' hD'; cases hD'; rfl) ps _ cs hr
          have hz : ((Array.range (len * D.size)).map fun i => D.zero.cells[i % D.zero.cells.size]!) = ((List.range (len * D.size)).map fun i => D.zero.cells.toList.getD (i % D.zero.cells.toList.length) undef).toArray := by
            have hpos : 0 < D.zero.cells.size := by simpa using hlen.2
            apply Array.ext'
            rw [Array.toList_map, Array.toList_range]
            refine List.map_congr_left fun i _ => ?_
            have hm := Nat.mod_lt i hpos
            simp [hm]
          simp only [Instr.buildSlice, Sem.run_bind, ty_underlying ht, Result.andThen_ok, ty_size hD]
          rw [if_neg (by omega)]
          by_cases h0 : len * D.size = 0
          · have ee' : (parts.map fun x => (x.1, a.eval x.2)).toList = ps := ee
            simp only [h0, if_true, pure_bind] at hf ⊢
            rw [ee']
            have hf' : Instr.fill (fun i => some (i * D.size, D.size)) (Array.map (fun x => (#[] : Array Value)[x % (#[] : Array Value).size]!) (Array.range 0)) ps = some cs.toArray := by
              rw [← hf]
              congr 1
              apply Array.ext'
              rw [Array.toList_map, Array.toList_range]
              rfl
            rw [hf']
            rfl
          · have hf' : Instr.fill (fun i => some (i * D.size, D.size)) ((Array.range (len * D.size)).map fun x => D.zero.cells[x % D.zero.cells.size]!) (parts.map fun (i, x) => (i, a.eval x)).toList = some cs.toArray := by
              rw [ee, hz]; exact hf
            simp only [if_neg h0, Sem.run_bind, ty_zero hD, Result.andThen_ok, Sem.run_pure]
            rw [hf']
            rfl
        · cases h
      · cases h
    · cases h
  · cases h

/-! ### Stores -/
def stI (S : St) (D : TD) (i b off : Nat) (y : AV) : Option (List Own) :=
  match ownF S.M i with
    | some o => if o.b = b then
        (if isAggD D.d = true then (match vcs D y.val with
          | some vs => if off + D.size ≤ o.cs.length then some (updM S.M i (wr o.cs off vs)) else none
          | none => none)
        else if D.size = 1 ∧ y.val.oneCell' = true ∧ off < o.cs.length then some (updM S.M i (o.cs.set off y.val)) else none) else none
    | none => none
def stM (P : Program) (S : St) (t : TypeId) (x y : AV) : Option (List Own) :=
  match ty P t, x with
  | some D, .o i b off => stI S D i b off y
  | some D, .v (.pointer (some ⟨b, off, none⟩)) => (match ownB S.M b with
    | some i => stI S D i b off y
    | none => none)
  | _, _ => none
theorem updM_mem : ∀ {M : List Own} {i : Nat} {o : Own} {cs : List Value}, ownF M i = some o → M.Pairwise (fun x y => x.b ≠ y.b) → ∀ x ∈ updM M i cs, (x = { o with cs := cs }) ∨ (x ∈ M ∧ x.b ≠ o.b)
  | [], _, _, _, h, _, _, _ => by cases h
  | m :: M, i, o, cs, h, hp, x, hx => by
    rw [List.pairwise_cons] at hp
    simp only [ownF] at h
    simp only [updM] at hx
    split at h
    · rename_i e
      cases h
      rw [if_pos e] at hx
      rcases List.mem_cons.1 hx with rfl | hx
      · exact .inl rfl
      · exact .inr ⟨List.mem_cons_of_mem _ hx, fun e => hp.1 x hx e.symm⟩
    · rename_i e
      rw [if_neg e] at hx
      rcases List.mem_cons.1 hx with rfl | hx
      · exact .inr ⟨List.mem_cons_self, fun e => hp.1 o (ownF_mem h) e⟩
      · rcases updM_mem h hp.2 x hx with h' | ⟨h1, h2⟩
        · exact .inl h'
        · exact .inr ⟨List.mem_cons_of_mem _ h1, h2⟩
theorem updM_pair : ∀ {M : List Own} {i : Nat} {o : Own} {cs : List Value}, ownF M i = some o → M.Pairwise (fun x y => x.b ≠ y.b) → (updM M i cs).Pairwise (fun x y => x.b ≠ y.b)
  | [], _, _, _, h, _ => by cases h
  | m :: M, i, o, cs, h, hp => by
    have hp' := List.pairwise_cons.1 hp
    simp only [updM]
    simp only [ownF] at h
    split at h
    · rename_i e
      cases h
      rw [if_pos e]
      exact List.pairwise_cons.2 ⟨hp'.1, hp'.2⟩
    · rename_i e
      rw [if_neg e]
      refine List.pairwise_cons.2 ⟨fun x hx => ?_, updM_pair h hp'.2⟩
      rcases updM_mem h hp'.2 x hx with rfl | ⟨h1, _⟩
      · exact hp'.1 o (ownF_mem h)
      · exact hp'.1 x h1
theorem Sat.store {B : Base} {w : World} (hw : Sat B S w) {i : Nat} {o : Own} (ho : ownF S.M i = some o) (cs : List Value) : Sat B ⟨S.L, updM S.M i cs, S.F, S.R, S.nx⟩ (w.setRow o.b cs.toArray) := by
  obtain ⟨m1, m2, m3, m4⟩ := hw.m o (ownF_mem ho)
  have hk : ∀ F : PH, F.In w → F o.b = none → F.In (w.setRow o.b cs.toArray) := fun F hF hn b u e => by
    rw [setRow_other]
    · exact hF b u e
    · rintro rfl; rw [hn] at e; cases e
  refine ⟨hk _ hw.f m2, fun x hx => ?_, updM_pair ho hw.mm, fun r hr => ⟨hk _ (hw.r r hr).1 (m3 r hr), (hw.r r hr).2⟩, hw.rr, ?_, hw.f0, hw.fnew⟩
  · rcases updM_mem ho hw.mm x hx with rfl | ⟨h1, h2⟩
    · exact ⟨setRow_heap w o.b _ _ _ _ m1, m2, m3, m4⟩
    · obtain ⟨k1, k2⟩ := hw.m x h1
      exact ⟨by rw [setRow_other _ _ _ _ h2]; exact k1, k2⟩
  · refine ⟨hw.late.os, hw.late.tape, hw.late.output, by simpa using hw.late.size, fun j hj hx => ?_⟩
    rw [setRow_other]
    · exact hw.late.block j hj hx
    · rintro rfl
      rcases m4 with h | h
      · exact hx h
      · omega
theorem stI_run {B : Base} {w : World} (hw : Sat B S w) {t : TypeId} {D : TD} (ht : ty P t = some D) {i b off : Nat} {y : AV} {M : List Own} (h : stI S D i b off y = some M) :
    ∃ w', (Instr.storeAt t (.pointer (some ⟨b, off, none⟩)) y.val).run P w = .ok () w' ∧ Sat B ⟨S.L, M, S.F, S.R, S.nx⟩ w' := by
  unfold stI at h
  split at h
  · rename_i o ho
    split at h
    · rename_i hb
      subst hb
      have hh := hw.own_heap ho
      split at h
      · split at h
        · rename_i vs hv
          obtain ⟨h1, h2, h3⟩ := vcs_cells hv
          split at h
          · rename_i hl
            cases h
            refine ⟨_, ?_, hw.store ho (wr o.cs off vs)⟩
            have e := run_storeCells_at P o.b off o.t vs 0 o.cs.toArray w hh (by simp; omega) h3
            simp only [Instr.storeAt, Instr.sureAddr, Sem.run_bind, Sem.run_pure, Result.andThen_ok, storeVar, ty_size ht]
            rw [if_neg (by rw [← h2, ← h1]; simp), h1, e]
            rfl
          · cases h
        · cases h
      · split at h
        · rename_i hc
          cases h
          refine ⟨_, ?_, hw.store ho (o.cs.set off y.val)⟩
          have e := run_storeCells_at P o.b off o.t [y.val] 0 o.cs.toArray w hh (by simp; omega) (by simp [hc.2.1])
          simp only [Instr.storeAt, Instr.sureAddr, Sem.run_bind, Sem.run_pure, Result.andThen_ok, storeVar, ty_size ht, cells_one hc.2.1]
          rw [if_neg (by simp [hc.1]), e]
          congr 3
          rw [List.set_eq_take_append_cons_drop]
          simp [hc.2.2]
        · cases h
    · cases h
  · cases h
theorem stM_run {B : Base} {w : World} (hw : Sat B S w) {t : TypeId} {x y : AV} {M : List Own} (h : stM P S t x y = some M) :
    ∃ w', (Instr.storeAt t x.val y.val).run P w = .ok () w' ∧ Sat B ⟨S.L, M, S.F, S.R, S.nx⟩ w' := by
  unfold stM at h
  split at h
  · rename_i D i b off ht
    exact stI_run hw ht h
  · rename_i D b off ht
    split at h
    · exact stI_run hw ht h
    · cases h
  · cases h
theorem Eff.store {B : Base} {κ : St → Prop} {t : TypeId} {p v : Operand} {x y : AV} {M : List Own} (hd : o.dst = none) (ho : o.op = .store t p v) (hx : evo S.L p = some x) (hy : evo S.L v = some y) (hs : stM P S t x y = some M)
    (h : κ ⟨S.L, M, S.F, S.R, S.nx⟩) : Eff P n B st o S κ := by
  intro a w ha hw K Q hK
  obtain ⟨w', h1, h2⟩ := stM_run hw hs
  obtain ⟨dst, op, type, pos, after, guard⟩ := o
  subst ho
  subst hd
  have e : execOp a.eval ⟨none, .store t p v, type, pos, after, guard⟩ = (do Instr.storeAt t (a.eval p) (a.eval v); pure .skip) := rfl
  unfold Oper.wp
  rw [e, ha.eval hx, ha.eval hy]
  simp only [Sem.run_bind, h1, Result.andThen_ok, Sem.run_pure, Oper.upon_skip]
  exact hK (.v undef) w' ⟨S.L, M, S.F, S.R, S.nx⟩ rfl h2 (fun _ h => nomatch h) h
theorem Eff.build {B : Base} {κ : St → Prop} {t : TypeId} {parts : Array (Nat × Operand)} {y : AV} (ho : o.op = .build t parts) (hb : bldv P S t parts = some y)
    (h : κ { S with L := setk S.L o.dst y }) : Eff P n B st o S κ := by
  refine Eff.value fun a w ha hw => ⟨y, w, S.M, S.F, S.R, S.nx, ?_, hw, Stab.refl _ _ _ _, h⟩
  obtain ⟨dst, op, type, pos, after, guard⟩ := o
  subst ho
  exact run_value rfl (bldv_run ha hb)
/-- A row of elements that is built never turns again. -/
theorem Eff.bsl {B : Base} {κ : St → Prop} {t e : TypeId} {len : Nat} {parts : Array (Nat × Operand)} {cs : List Value} (ho : o.op = .buildSlice t len parts) (hb : bslv P S t len parts = some (e, cs))
    (h : ∀ b F', S.F.le F' → F' b = some (.cells cs.toArray e (0, 0)) → κ ⟨setk S.L o.dst (.v (.slice (some ⟨b, 0, none⟩) len len)), S.M, F', S.R, S.nx⟩) : Eff P n B st o S κ := by
  refine Eff.value fun a w ha hw => ?_
  obtain ⟨F', h1, h2, h3⟩ := ((hw.push e cs S.L 0 S.nx).permM List.perm_append_comm).freeze rfl S.L S.nx
  refine ⟨.v (.slice (some ⟨w.heap.size, 0, none⟩) len len), _, S.M, F', S.R, S.nx, ?_, h3, Stab.grow _ _ _ _ h1, h _ F' h1 h2⟩
  obtain ⟨dst, op, type, pos, after, guard⟩ := o
  subst ho
  exact run_value' (by rfl) (bslv_run ha hb)
/-- What is the call's own is lent from now on. -/
theorem Sat.toR {B : Base} {w : World} {m : Own} {M : List Own} (hw : Sat B S w) (hm : S.M = m :: M) (L : KL) (nx : Nat) : Sat B ⟨L, M, S.F, PH.one m.b (.cells m.cs.toArray m.t (0, 0)) :: S.R, nx⟩ w := by
  obtain ⟨m1, m2, m3, m4⟩ := hw.m m (by rw [hm]; exact List.mem_cons_self)
  have hmm := hw.mm
  rw [hm, List.pairwise_cons] at hmm
  have h1 : ∀ b, PH.one m.b (.cells m.cs.toArray m.t (0, 0)) b ≠ none → b = m.b := fun b hb => by
    by_cases e : b = m.b
    · exact e
    · exact absurd (by simp [PH.one, e]) hb
  refine ⟨hw.f, fun o ho => ?_, hmm.2, fun r hr => ?_, List.pairwise_cons.2 ⟨fun r hr b => ?_, hw.rr⟩, hw.late, hw.f0, hw.fnew⟩
  · obtain ⟨k1, k2, k3, k4⟩ := hw.m o (by rw [hm]; exact List.mem_cons_of_mem _ ho)
    refine ⟨k1, k2, fun r hr => ?_, k4⟩
    rcases List.mem_cons.1 hr with rfl | hr
    · simp [PH.one, Ne.symm (hmm.1 o ho)]
    · exact k3 r hr
  · rcases List.mem_cons.1 hr with rfl | hr
    · refine ⟨fun b u e => ?_, fun b => ?_, fun b hb => by rw [h1 b hb]; exact m4⟩
      · have := h1 b (by rw [e]; exact fun h => nomatch h)
        subst this
        simp [PH.one] at e; subst e; exact m1
      · by_cases e : b = m.b
        · subst e; exact .inl m2
        · exact .inr (by simp [PH.one, e])
    · exact hw.r r hr
  · by_cases e : b = m.b
    · subst e; exact .inr (m3 r hr)
    · exact .inl (by simp [PH.one, e])
/-- A row without elements, as one begins it. -/
theorem Eff.bsl0 {B : Base} {κ : St → Prop} {t e : TypeId} {parts : Array (Nat × Operand)} {cs : List Value} (ho : o.op = .buildSlice t 0 parts) (hb : bslv P S t 0 parts = some (e, cs))
    (h : ∀ b, κ ⟨setk S.L o.dst (.v (.slice (some ⟨b, 0, none⟩) 0 0)), S.M, S.F, PH.one b (.cells cs.toArray e (0, 0)) :: S.R, S.nx⟩) : Eff P n B st o S κ := by
  refine Eff.value fun a w ha hw => ?_
  have h3 := ((hw.push e cs S.L 0 S.nx).permM List.perm_append_comm).toR rfl S.L S.nx
  refine ⟨.v (.slice (some ⟨w.heap.size, 0, none⟩) 0 0), _, S.M, S.F, _, S.nx, ?_, h3, Stab.refl _ _ _ _, h _⟩
  obtain ⟨dst, op, type, pos, after, guard⟩ := o
  subst ho
  exact run_value' (by rfl) (bslv_run ha hb)
end
end Go.Eng

/- The engine, part 7: calls, returns, contracts, and the walk that goes by itself. -/
namespace Go.Eng
open Go Go.RowKit

instance (n : Nat) : OfNat ResultVar n := ⟨.tmp n⟩
/-- A result: a slot, or what lies at a slot's address. -/
def rval1 (P : Program) (S : St) : ResultVar → Option AV
  | .tmp t => look S.L t
  | .cell a t => match look S.L a with
    | some x => ldv P S t x
    | none => none
def rvals (P : Program) (S : St) : List ResultVar → Option (List Value)
  | [] => some []
  | t :: ts => match rval1 P S t, rvals P S ts with
    | some x, some xs => some (x.val :: xs)
    | _, _ => none
def rval : List Value → Value
  | [v] => v
  | l => .tuple l.toArray
/-- What fits one state fits the other. -/
def Shift (S S1 : St) : Prop := ∀ B w, Sat B S w → Sat B S1 w
/-- What is handed back at the end. -/
def RetR (S : St) (R' : List PH) : Prop := Shift S ⟨[], [], S.F, R', 0⟩
theorem RetR.sub {S : St} {R' : List PH} (h : R'.Sublist S.R) : RetR S R' := fun _ _ hs => hs.weaken ⟨(fun _ _ h => nomatch h), List.nil_sublist _, rfl, h⟩
theorem RetR.refl (S : St) : RetR S S.R := .sub (List.Sublist.refl _)
/-- Where a walk ends: its results are known, and what is asked of them holds. -/
def RetOk (P : Program) (ts : List ResultVar) (Q : Value → PH → List PH → Prop) (S : St) : Prop := ∃ vs R', rvals P S ts = some vs ∧ RetR S R' ∧ Q (rval vs) S.F R'
def retC (P : Program) (n : Nat) (B : Base) (ts : List ResultVar) (Q : Value → PH → List PH → Prop) : Cx := ⟨B, fun a w => ∃ S, Kn n S.L a ∧ Sat B S w ∧ RetOk P ts Q S⟩
def initL : Nat → List Value → KL
  | _, [] => []
  | i, v :: l => (i, .v v) :: initL (i + 1) l
theorem initL_look : ∀ (l : List Value) (i d : Nat) (x : AV), look (initL i l) d = some x → ∃ j, d = i + j ∧ l[j]? = some x.val
  | [], _, _, _, h => by cases h
  | v :: l, i, d, x, h => by
    simp only [initL, look] at h
    split at h
    · subst_vars; cases h; exact ⟨0, rfl, rfl⟩
    · obtain ⟨j, h1, h2⟩ := initL_look l (i + 1) d x h
      exact ⟨j + 1, by omega, by simpa using h2⟩
section
variable {P : Program} {n : Nat} {C : Cx} {k : List KItem} {S : St} {all : Array Oper} {o : Oper} {l : List Oper} {B : Base} {ts : List ResultVar} {Q : Value → PH → List PH → Prop}
theorem VC.retok (h : RetOk P ts Q S) : VC P n (retC P n B ts Q) (.code .ret :: k) S := VC.ret fun _ _ ha hw => ⟨S, ha, hw, h⟩
theorem VC.nilok (h : RetOk P ts Q S) : VC P n (retC P n B ts Q) [] S := VC.nil fun _ _ ha hw => ⟨S, ha, hw, h⟩
def resf (tmps : Array Value) : ResultVar → Sem Value
  | .tmp t => pure (tmps.getD t undef)
  | .cell a t => do loadVar t (← asAddr (tmps.getD a undef))
theorem rval1_run {a : Act} {w : World} (ha : Kn n S.L a) (hw : Sat B S w) {r : ResultVar} {x : AV} (h : rval1 P S r = some x) : (resf a.tmps r).run P w = .ok x.val w := by
  cases r with
  | tmp t =>
    have e := (ha.2.2 _ _ h).2
    simp only [resf, e]
    rfl
  | cell t ty' =>
    simp only [rval1] at h
    split at h
    · rename_i y hy
      have e := (ha.2.2 _ _ hy).2
      have hl := ldv_run hw h
      have hp : ∃ p, y.val = .pointer (some p) := by
        unfold ldv at h
        split at h
        · cases h
        · split at h
          · exact ⟨_, rfl⟩
          · exact ⟨_, rfl⟩
          · cases h
      obtain ⟨p, hp⟩ := hp
      simp only [resf, e]
      rw [hp] at hl ⊢
      simp only [Instr.loadAt, Instr.sureAddr, Sem.run_bind, Sem.run_pure, Result.andThen_ok] at hl
      simp only [asAddr, Sem.run_bind, Sem.run_pure, Result.andThen_ok]
      exact hl
    · cases h
theorem rvals_results {a : Act} {w : World} (ha : Kn n S.L a) (hw : Sat B S w) : ∀ {ts : List ResultVar} {vs : List Value}, rvals P S ts = some vs → (ts.mapM (m := Sem) (resf a.tmps)).run P w = .ok vs w
  | [], vs, h => by simp only [rvals, Option.some.injEq] at h; subst h; rfl
  | t :: ts, vs, h => by
    simp only [rvals] at h
    split at h
    · rename_i h1 h2
      cases h
      rw [List.mapM_cons]
      simp only [Sem.run_bind, rval1_run ha hw h1, Result.andThen_ok, rvals_results ha hw h2, Sem.run_pure]
    · cases h
theorem results_run {a : Act} {w : World} {fn : Func} (ha : Kn n S.L a) (hw : Sat B S w) {vs : List Value} (hr : fn.results = ts.toArray) (h : rvals P S ts = some vs) : (results fn a.tmps).run P w = .ok (rval vs) w := by
  have e1 : results fn a.tmps = (do
      let vs ← fn.results.mapM (m := Sem) (resf a.tmps)
      pure (if h : vs.size = 1 then vs[0] else .tuple vs)) := by
    unfold results
    congr 2
  have e2 : (fn.results.mapM (m := Sem) (resf a.tmps)).run P w = .ok vs.toArray w := by
    rw [Array.mapM_eq_mapM_toList, hr]
    have h3 := rvals_results ha hw h
    show (List.toArray <$> (ts.mapM (m := Sem) (resf a.tmps))).run P w = _
    rw [map_eq_pure_bind]
    simp only [Sem.run_bind, h3, Result.andThen_ok, Sem.run_pure]
  rw [e1]
  simp only [Sem.run_bind, e2, Result.andThen_ok, Sem.run_pure]
  match vs with
  | [] => rfl
  | [v] => rfl
  | v :: v' :: l => rfl
theorem Fn.intro {f : FuncId} {fn : Func} {c : Code} {args : List Value} {F : PH} {R : List PH} (hf : P.funcs[f]? = some fn) (hb : fn.body = some c) (hn : (fn.name == "runtime.NumGoroutine") = false)
    (hr : fn.results = ts.toArray) (hnt : fn.ntmps = n) (hl : args.length ≤ n)
    (h : ∀ B : Base, B.F = F → VC P n (retC P n B ts Q) [.code c] ⟨initL 0 args, [], F, R, 0⟩) : Fn P f args F R Q := by
  subst hnt
  refine ⟨⟨fn, hf, by simp [hb], hn⟩, fun w hw => ?_⟩
  refine calls_of_wp hf hb ?_
  have hk : Kn fn.ntmps (initL 0 args) { tmps := args.toArray ++ Array.replicate (fn.ntmps - args.toArray.size) undef, defers := [] } := by
    refine ⟨rfl, by simp; omega, fun d x hd => ?_⟩
    obtain ⟨j, h1, h2⟩ := initL_look args 0 d x hd
    have hj : j < args.length := by
      rcases Nat.lt_or_ge j args.length with h' | h'
      · exact h'
      · rw [List.getElem?_eq_none h'] at h2; cases h2
    have : d = j := by omega
    subst this
    refine ⟨by omega, ?_⟩
    rw [List.getElem?_eq_getElem hj] at h2
    simp only [Option.some.injEq] at h2
    simp [Array.getD, hj, h2]
    omega
  have hs : Sat (base0 w F R) ⟨initL 0 args, [], F, R, 0⟩ w :=
    ⟨hw.f, (fun _ ho => nomatch ho), List.Pairwise.nil, fun r hr => ⟨(hw.r r hr).1, (hw.r r hr).2, fun b hb => Or.inl ⟨r, hr, hb⟩⟩, hw.rr, Later.refl _ _, PH.le_refl _, fun b hb => Or.inl hb⟩
  refine wp_mono (h (base0 w F R) rfl _ w hk hs) ?_
  have fin : ∀ a w', (∃ S, Kn fn.ntmps S.L a ∧ Sat (base0 w F R) S w' ∧ RetOk P ts Q S) → a.defers = [] ∧ ∃ v, (results fn a.tmps).run P w' = .ok v w' ∧ ∃ v_1 F' R', Ending.returned v = .returned v_1 ∧ Q v_1 F' R' ∧ Sat (base0 w F R) ⟨[], [], F', R', 0⟩ w' := by
    rintro a w' ⟨S, k1, k2, vs, R', h1, h2, h3⟩
    refine ⟨k1.1, rval vs, ?_, rval vs, S.F, R', rfl, h3, ?_⟩
    · exact results_run k1 k2 hr h1
    · exact h2 _ _ k2
  intro e a w' q
  cases e with
  | normal => exact fin a w' q
  | ret => exact fin a w' q
  | exit id => exact q.elim
  | goto l => exact q.elim
  | panic ch => exact q.elim
  | outgrown => exact q.elim
end
end Go.Eng

/- The engine, part 8: the walk that goes by itself, as far as it can; what is left of it is what is to be shown. -/
namespace Go.Eng
open Go Go.RowKit

section
variable {P : Program} {n : Nat} {C : Cx} {k : List KItem} {S : St} {all : Array Oper} {o : Oper} {l : List Oper} {st : Bool}
theorem Eff.callM {κ : St → Prop} {f : FuncId} {fo : Operand} {args : Array Operand} {tys : Array TypeId} {first cap : Array Value} {y : AV} {vs : List Value} {Q : Value → PH → List PH → Prop} {S1 : St} {Rc Rf : List PH} {B : Base} (ho : o.op = .call ⟨.value fo, args, tys⟩)
    (hf : evo S.L fo = some y) (hy : y.val = .func (.func f) first cap) (ha : evl S.L args.toList = some vs) (hs1 : Shift S S1) (hc : Fn P f (first.toList ++ vs ++ cap.toList) S1.F Rc Q) (hp : S1.R.Perm (Rc ++ Rf))
    (next : ∀ v F' R', S1.F.le F' → Q v F' R' → ∃ S2, S2.L = setk S.L o.dst (.v v) ∧ Shift ⟨[], S1.M, F', R' ++ Rf, 0⟩ S2 ∧ (st = true → Stab S S2) ∧ κ S2) : Eff P n B st o S κ := by
  obtain ⟨⟨fn, hfn, hbody, hname⟩, hc⟩ := hc
  intro a w hka hkw K Q' hK
  obtain ⟨dst, op, type, pos, after, guard⟩ := o
  subst ho
  have e : execOp a.eval ⟨dst, .call ⟨.value fo, args, tys⟩, type, pos, after, guard⟩ = (do let d ← resolve a.eval ⟨.value fo, args, tys⟩ type; invoke d.target d.args) := rfl
  have hargs := hka.evals ha
  have hb : fn.body.isNone = false := by cases hh : fn.body <;> simp_all
  have e2 : (execOp a.eval ⟨dst, .call ⟨.value fo, args, tys⟩, type, pos, after, guard⟩).run P w = .ok (.enter f (first.toList ++ vs ++ cap.toList).toArray) w := by
    rw [e]
    have hm : (args.map a.eval).toList = vs := by rw [Array.toList_map]; exact hargs
    have ht : first ++ args.map a.eval ++ cap = (first.toList ++ vs ++ cap.toList).toArray := by
      apply Array.ext'
      rw [Array.toList_append, Array.toList_append, hm]
    simp only [resolve, hka.eval hf, hy, Deferred.ofValue, Sem.run_bind, Sem.run_pure, Result.andThen_ok, invoke, callFunc]
    simp only [program, Sem.run, Result.andThen_ok, hfn, hname, hb, Bool.false_eq_true, if_false, ht]
    rfl
  unfold Oper.wp
  rw [e2, Oper.upon_enter]
  have hw1 := hs1 _ _ hkw
  refine (hc w (hw1.in0 hp)).mono ?_
  rintro _ w' ⟨v, F', R', rfl, hq, hs⟩
  obtain ⟨S2, h1, h2, h3, h4⟩ := next v F' R' hs.f0 hq
  exact hK (.v v) w' S2 h1 (h2 _ _ (hw1.behind hp hs _ _)) (fun hst _ => h3 hst) h4
/-- A call: some contract fits, and behind it all goes well. -/
def CallV (P : Program) (st : Bool) (f : FuncId) (args : List Value) (d : Option Tmp) (κ : St → Prop) (S : St) : Prop :=
  ∃ Q S1 Rc Rf, Shift S S1 ∧ Fn P f args S1.F Rc Q ∧ S1.R.Perm (Rc ++ Rf) ∧ ∀ v F' R', S1.F.le F' → Q v F' R' → ∃ S2, S2.L = setk S.L d (.v v) ∧ Shift ⟨[], S1.M, F', R' ++ Rf, 0⟩ S2 ∧ (st = true → Stab S S2) ∧ κ S2
/-- The same, where nothing but what is lent turns. -/
theorem CallV.mk {κ : St → Prop} {f : FuncId} {args : List Value} {d : Option Tmp} (h : ∃ Q Rc Rf, Fn P f args S.F Rc Q ∧ S.R.Perm (Rc ++ Rf) ∧ ∀ v F' R', S.F.le F' → Q v F' R' → κ ⟨setk S.L d (.v v), S.M, F', R' ++ Rf, S.nx⟩) : CallV P st f args d κ S := by
  obtain ⟨Q, Rc, Rf, h1, h2, h3⟩ := h
  exact ⟨Q, S, Rc, Rf, fun _ _ h => h, h1, h2, fun v F' R' k1 k2 => ⟨_, rfl, fun _ _ h => h.setL _ _, fun _ => Stab.grow _ _ _ _ k1, h3 v F' R' k1 k2⟩⟩
theorem CallV.of {κ : St → Prop} {f : FuncId} {args : List Value} {d : Option Tmp} {Q : Value → PH → List PH → Prop} (hc : Fn P f args S.F S.R Q) (next : ∀ v F' R', S.F.le F' → Q v F' R' → κ ⟨setk S.L d (.v v), S.M, F', R', S.nx⟩) : CallV P st f args d κ S :=
  .mk ⟨Q, S.R, [], hc, by simp, fun v F' R' h1 h2 => by rw [List.append_nil]; exact next v F' R' h1 h2⟩
/-- A contract to which nothing is lent. -/
def PFn (P : Program) (f : FuncId) (args : List Value) (F : PH) (Q : Value → PH → Prop) : Prop := Fn P f args F [] (fun v F' R' => R' = [] ∧ Q v F')
theorem CallV.pure {κ : St → Prop} {f : FuncId} {args : List Value} {d : Option Tmp} {Q : Value → PH → Prop} (hc : PFn P f args S.F Q) (next : ∀ v F', S.F.le F' → Q v F' → κ ⟨setk S.L d (.v v), S.M, F', S.R, S.nx⟩) : CallV P st f args d κ S :=
  .mk ⟨_, [], S.R, hc, by simp, fun v F' R' h1 h2 => by obtain ⟨rfl, h2⟩ := h2; exact next v F' h1 h2⟩

/-! ### Guards -/
/-- What a guard asks of a value: one that is passed over is nobody's. -/
def gb (want : Bool) : Value → Option Bool
  | .bool b => some b
  | .tuple _ => some (!want)
  | _ => none
theorem gb_bool (want b : Bool) : gb want (.bool b) = some b := rfl
theorem gb_undef (want : Bool) : gb want undef = some (!want) := rfl
def gval (all : Array Oper) (L : KL) (j : Nat) (want : Bool) : Option Bool :=
  match all[j]? with
  | some oj => match oj.dst with
    | some d => match look L d with
      | some (.v x) => gb want x
      | _ => none
    | none => none
  | none => none
theorem yielded_at {tmps : Array Value} {j : Nat} {oj : Oper} {d : Nat} {x : Value} {want b : Bool} (hj : all[j]? = some oj) (hd : oj.dst = some d) (hx : tmps[d]? = some x) (hb : gb want x = some b) : (yielded all tmps j == some want) = (b == want) := by
  unfold yielded
  simp only [hj, hd, Option.bind_some, hx]
  cases x <;> simp [gb] at hb
  · subst hb; simp
  · subst hb; cases b <;> rfl
theorem gval_run {a : Act} (ha : Kn n S.L a) {j : Nat} {want b : Bool} (h : gval all S.L j want = some b) : (yielded all a.tmps j == some want) = (b == want) := by
  unfold gval at h
  split at h
  · rename_i oj hj
    split at h
    · rename_i d hd
      split at h
      · rename_i x hl
        obtain ⟨h1, h2⟩ := ha.2.2 _ _ hl
        refine yielded_at hj hd ?_ h
        rw [Array.getElem?_eq_getElem (by rw [ha.2.1]; exact h1)]
        have : a.tmps.getD d undef = x := h2
        simp only [Array.getD, ha.2.1, h1] at this
        simpa using this
      · cases h
    · cases h
  · cases h
theorem VC.guard {j : Nat} {want b : Bool} (hg : o.guard = some (j, want)) (hd : dok n o.dst = true) (hv : gval all S.L j want = some b)
    (h1 : (b == want) = true → VC P n C (.ops all ({ o with guard := none } :: l) :: k) S)
    (h2 : (b == want) = false → VC P n C (.ops all l :: k) { S with L := setk S.L o.dst (.v undef) }) : VC P n C (.ops all (o :: l) :: k) S := by
  intro a w ha hw
  have hy := gval_run ha hv
  show wpList P all _ (o :: l) a w
  unfold wpList
  by_cases e : (b == want) = true
  · have hwn : Region.wanted o (yielded all a.tmps) = true := by simpa [Region.wanted, hg, hy] using e
    rw [if_pos hwn]
    have h := h1 e a w ha hw
    have h : wpList P all (mkq C.ret (semx P n C k).1 (semx P n C k).2) ({ o with guard := none } :: l) a w := h
    unfold wpList at h
    rw [if_pos (by simp [Region.wanted])] at h
    obtain ⟨dst, op, type, pos, after, guard⟩ := o
    exact h
  · have hwn : ¬ Region.wanted o (yielded all a.tmps) = true := by simpa [Region.wanted, hg, hy] using e
    rw [if_neg hwn]
    exact h2 (by simpa using e) _ _ (ha.put rfl (dok_lt hd)) (hw.setL _ _)
end

/-! ### The walk -/
def cnd (b : Bool) (gx gy : St → Prop) (S : St) : Prop := (b = true → gx S) ∧ (b = false → gy S)
theorem cnd_true (gx gy : St → Prop) (S : St) : cnd true gx gy S = gx S := by simp [cnd]
theorem cnd_false (gx gy : St → Prop) (S : St) : cnd false gx gy S = gy S := by simp [cnd]
theorem cnd_mk {b : Bool} {gx gy : St → Prop} {S : St} (h1 : b = true → gx S) (h2 : b = false → gy S) : cnd b gx gy S := ⟨h1, h2⟩
def goV (κ : St → Prop) (d : Option Tmp) (S : St) : Option AV → Prop
  | some y => κ { S with L := setk S.L d y }
  | none => False
/-- An operation that is passed over. -/
def skp (κ : St → Prop) (d : Option Tmp) (S : St) : Prop := κ { S with L := setk S.L d (.v undef) }
/-- One operation (its guard aside), by its kind. -/
def opn (P : Program) (n : Nat) (B : Base) (st : Bool) (κ : St → Prop) (o : Oper) (S : St) : Prop :=
  match o.op with
  | .alloc t => match ty P t with
    | some D => ∀ b, κ ⟨setk S.L o.dst (.o S.nx b 0), S.M ++ [⟨S.nx, b, t, D.zero.cells.toList⟩], S.F, S.R, S.nx + 1⟩
    | none => False
  | .box t x => match evo S.L x with
    | some y => ∀ b, κ ⟨setk S.L o.dst (.o S.nx b 0), S.M ++ [⟨S.nx, b, t, y.val.cells.toList⟩], S.F, S.R, S.nx + 1⟩
    | none => False
  | .store t p v => match evo S.L p, evo S.L v with
    | some x, some y => o.dst = none ∧ (match stM P S t x y with
      | some M => κ ⟨S.L, M, S.F, S.R, S.nx⟩
      | none => False)
    | _, _ => False
  | .build t parts => goV κ o.dst S (bldv P S t parts)
  | .buildSlice t len parts => match bslv P S t len parts with
    | some (e, cs) => if len = 0 then ∀ b, κ ⟨setk S.L o.dst (.v (.slice (some ⟨b, 0, none⟩) 0 0)), S.M, S.F, PH.one b (.cells cs.toArray e (0, 0)) :: S.R, S.nx⟩
      else ∀ b F', S.F.le F' → F' b = some (.cells cs.toArray e (0, 0)) → κ ⟨setk S.L o.dst (.v (.slice (some ⟨b, 0, none⟩) len len)), S.M, F', S.R, S.nx⟩
    | none => False
  | .call ⟨.value fo, args, _⟩ => match evo S.L fo, evl S.L args.toList with
    | some (.v (.func (.func f) first cap)), some vs => CallV P st f (first.toList ++ vs ++ cap.toList) o.dst κ S
    | _, _ => False
  | .call ⟨.builtin .len, args, tys⟩ => goV κ o.dst S (qv P S (.call ⟨.builtin .len, args, tys⟩))
  | .move x => goV κ o.dst S (evo S.L x)
  | .assign x => goV κ o.dst S (evo S.L x)
  | .pick c a b => goV κ o.dst S (qv P S (.pick c a b))
  | .binOp op t x y u => goV κ o.dst S (qv P S (.binOp op t x y u))
  | .unOp op t x => goV κ o.dst S (qv P S (.unOp op t x))
  | .convert s d x => goV κ o.dst S (qv P S (.convert s d x))
  | .makeInterface t x => goV κ o.dst S (qv P S (.makeInterface t x))
  | .makeFunc f a b => goV κ o.dst S (qv P S (.makeFunc f a b))
  | .extract x i => goV κ o.dst S (qv P S (.extract x i))
  | .field t x f => goV κ o.dst S (qv P S (.field t x f))
  | .fieldAddr t x f => goV κ o.dst S (qv P S (.fieldAddr t x f))
  | .nilCheck x => goV κ o.dst S (qv P S (.nilCheck x))
  | .indexAddr t x i => goV κ o.dst S (qv P S (.indexAddr t x i))
  | .index t x i => goV κ o.dst S (qv P S (.index t x i))
  | .load t x => goV κ o.dst S (qv P S (.load t x))
  | .slice t x lo hi none => goV κ o.dst S (qv P S (.slice t x lo hi none))
  | _ => Eff P n B st o S κ
section
variable {P : Program} {n : Nat} {C : Cx} {k : List KItem} {S : St} {all : Array Oper} {o : Oper} {l : List Oper} {B : Base} {st : Bool}
theorem goV_sound {κ : St → Prop} (h : goV κ o.dst S (qv P S o.op)) : Eff P n B st o S κ := by
  cases e : qv P S o.op with
  | none => rw [e] at h; exact h.elim
  | some y => rw [e] at h; exact Eff.quiet e h
theorem opn_sound {κ : St → Prop} (h : opn P n B st κ o S) : Eff P n B st o S κ := by
  obtain ⟨dst, op, type, pos, after, guard⟩ := o
  cases op with
  | alloc t =>
    simp only [opn] at h
    split at h
    · rename_i ht; exact Eff.alloc rfl ht h
    · exact h.elim
  | box t x =>
    simp only [opn] at h
    split at h
    · rename_i ht; exact Eff.box rfl ht h
    · exact h.elim
  | store t p v =>
    simp only [opn] at h
    split at h
    · rename_i h1 h2
      obtain ⟨hd, h⟩ := h
      split at h
      · rename_i hs; exact Eff.store hd rfl h1 h2 hs h
      · exact h.elim
    · exact h.elim
  | build t parts =>
    simp only [opn] at h
    cases e : bldv P S t parts with
    | none => rw [e] at h; exact h.elim
    | some y => rw [e] at h; exact Eff.build rfl e h
  | buildSlice t len parts =>
    simp only [opn] at h
    split at h
    · rename_i hb
      split at h
      · rename_i h0; subst h0; exact Eff.bsl0 rfl hb h
      · exact Eff.bsl rfl hb h
    · exact h.elim
  | call c =>
    obtain ⟨callee, args, tys⟩ := c
    cases callee with
    | value fo =>
      simp only [opn] at h
      split at h
      · rename_i h1 h2
        obtain ⟨Q, S1, Rc, Rf, g0, g1, g2, g3⟩ := h
        exact Eff.callM rfl h1 rfl h2 g0 g1 g2 g3
      · exact h.elim
    | builtin b => cases b <;> first | exact goV_sound h | exact h
    | invoke r m => exact h
  | slice t x lo hi mx => cases mx <;> first | exact goV_sound h | exact h
  | _ => first | exact goV_sound h | exact h
/-- A region's operations, one behind the other, in the text's order. -/
def seqn (P : Program) (n : Nat) (B : Base) (κ : St → Prop) (all : Array Oper) : List Oper → St → Prop
  | [], S => κ S
  | o :: l, S => match o.guard with
    | none => dok n o.dst = true ∧ opn P n B false (seqn P n B κ all l) o S
    | some (j, want) => match gval all S.L j want with
      | some b => dok n o.dst = true ∧ cnd (b == want) (opn P n B false (seqn P n B κ all l) ⟨o.dst, o.op, o.type, o.pos, o.after, none⟩) (skp (seqn P n B κ all l) o.dst) S
      | none => False
theorem seqn_sound {κ : St → Prop} (hκ : ∀ S, κ S → VC P n C k S) : ∀ {l : List Oper} {S : St}, seqn P n C.B κ all l S → VC P n C (.ops all l :: k) S
  | [], _, h => VC.opsnil (hκ _ h)
  | o :: l, S, h => by
    simp only [seqn] at h
    split at h
    · rename_i hg; exact VC.eff hg h.1 ((opn_sound h.2).mono fun S h => seqn_sound hκ h)
    · rename_i hg
      split at h
      · rename_i hb
        refine VC.guard hg h.1 hb (fun e => ?_) (fun e => seqn_sound hκ (h.2.2 e))
        exact VC.eff rfl h.1 ((opn_sound (h.2.1 e)).mono fun S h => seqn_sound hκ h)
      · exact h.elim
def vcn (P : Program) (n : Nat) (B : Base) (ts : List ResultVar) (Q : Value → PH → List PH → Prop) : Nat → List KItem → St → Prop
  | 0, k, S => VC P n (retC P n B ts Q) k S
  | _ + 1, [], S => RetOk P ts Q S
  | f + 1, .code c :: k, S => match c with
    | .skip => vcn P n B ts Q f k S
    | .seq x y => vcn P n B ts Q f (.code x :: .code y :: k) S
    | .block id c => vcn P n B ts Q f (.code c :: .blk id :: k) S
    | .ret => RetOk P ts Q S
    | .region _ ops false => seqn P n B (vcn P n B ts Q f k) ops ops.toList S
    | .cond c x y => match evo S.L c with
      | some (.v (.bool b)) => cnd b (vcn P n B ts Q f (.code x :: k)) (vcn P n B ts Q f (.code y :: k)) S
      | _ => False
    | .exit id => match dropTo id k with
      | some k' => vcn P n B ts Q f k' S
      | none => False
    | c => VC P n (retC P n B ts Q) (.code c :: k) S
  | f + 1, .blk _ :: k, S => vcn P n B ts Q f k S
  | _ + 1, .done G :: _, S => G S
  | _ + 1, .ops all l :: k, S => VC P n (retC P n B ts Q) (.ops all l :: k) S
theorem VC.go {B : Base} {ts : List ResultVar} {Q : Value → PH → List PH → Prop} : ∀ (f : Nat) {k : List KItem} {S : St}, vcn P n B ts Q f k S → VC P n (retC P n B ts Q) k S
  | 0, _, _, h => h
  | _ + 1, [], _, h => VC.nilok h
  | f + 1, .blk _ :: k, _, h => VC.blk (VC.go f (k := k) h)
  | _ + 1, .done _ :: _, _, h => VC.done h
  | _ + 1, .ops _ _ :: _, _, h => h
  | f + 1, .code c :: k, S, h => by
    simp only [vcn] at h
    split at h
    · exact VC.skip (VC.go f h)
    · exact VC.seq (VC.go f h)
    · exact VC.block (VC.go f h)
    · exact VC.retok h
    · exact VC.region (seqn_sound (C := retC P n B ts Q) (fun S h => VC.go f h) h)
    · split at h
      · rename_i hc
        intro a w ha hw
        have e := ha.eval hc
        rename_i b
        cases b
        · exact wp_cond_false e (VC.go f (h.2 rfl) a w ha hw)
        · exact wp_cond_true e (VC.go f (h.1 rfl) a w ha hw)
      · exact h.elim
    · split at h
      · rename_i hk; exact VC.exit hk (VC.go f h)
      · exact h.elim
    · exact h
theorem RetOk.p {ts : List ResultVar} {vs : List Value} {Q : Value → PH → Prop} {S : St} (h : rvals P S ts = some vs) (hq : Q (rval vs) S.F) : RetOk P ts (fun v F' R' => R' = [] ∧ Q v F') S := ⟨vs, [], h, .sub (List.nil_sublist _), rfl, hq⟩
end
/-! The walk's equations, with what is left kept shut. -/
section
variable (P : Program) (n : Nat) (B : Base) (ts : List ResultVar) (Q : Value → PH → List PH → Prop) (κ : St → Prop) (all : Array Oper) (o : Oper) (l : List Oper) (S : St) (f : Nat) (k : List KItem)
theorem seqn_nil : seqn P n B κ all [] S = κ S := rfl
theorem seqn_cons (dst : Option Tmp) (op : Op) (type : TypeId) (pos : String) (after : Array Edge) : seqn P n B κ all (⟨dst, op, type, pos, after, none⟩ :: l) S = (dok n dst = true ∧ opn P n B false (seqn P n B κ all l) ⟨dst, op, type, pos, after, none⟩ S) := rfl
theorem seqn_guard (dst : Option Tmp) (op : Op) (type : TypeId) (pos : String) (after : Array Edge) (j : Nat) (want : Bool) : seqn P n B κ all (⟨dst, op, type, pos, after, some (j, want)⟩ :: l) S =
    (match gval all S.L j want with
      | some b => dok n dst = true ∧ cnd (b == want) (opn P n B false (seqn P n B κ all l) ⟨dst, op, type, pos, after, none⟩) (skp (seqn P n B κ all l) dst) S
      | none => False) := rfl
theorem vcn_zero : vcn P n B ts Q 0 k S = VC P n (retC P n B ts Q) k S := rfl
theorem vcn_nil : vcn P n B ts Q (f + 1) [] S = RetOk P ts Q S := rfl
theorem vcn_skip : vcn P n B ts Q (f + 1) (.code .skip :: k) S = vcn P n B ts Q f k S := rfl
theorem vcn_seq (x y : Code) : vcn P n B ts Q (f + 1) (.code (.seq x y) :: k) S = vcn P n B ts Q f (.code x :: .code y :: k) S := rfl
theorem vcn_block (id : Nat) (c : Code) : vcn P n B ts Q (f + 1) (.code (.block id c) :: k) S = vcn P n B ts Q f (.code c :: .blk id :: k) S := rfl
theorem vcn_ret : vcn P n B ts Q (f + 1) (.code .ret :: k) S = RetOk P ts Q S := rfl
theorem vcn_region (id : Nat) (ops : List Oper) : vcn P n B ts Q (f + 1) (.code (.region id ops.toArray false) :: k) S = seqn P n B (vcn P n B ts Q f k) ops.toArray ops S := rfl
theorem vcn_draw (id : Nat) (ops : Array Oper) : vcn P n B ts Q (f + 1) (.code (.region id ops true) :: k) S = VC P n (retC P n B ts Q) (.code (.region id ops true) :: k) S := rfl
theorem vcn_cond (c : Operand) (x y : Code) : vcn P n B ts Q (f + 1) (.code (.cond c x y) :: k) S = (match evo S.L c with
      | some (.v (.bool b)) => cnd b (vcn P n B ts Q f (.code x :: k)) (vcn P n B ts Q f (.code y :: k)) S
      | _ => False) := rfl
theorem vcn_exit (id : Nat) : vcn P n B ts Q (f + 1) (.code (.exit id) :: k) S = (match dropTo id k with
      | some k' => vcn P n B ts Q f k' S
      | none => False) := rfl
theorem vcn_loop (c : Code) : vcn P n B ts Q (f + 1) (.code (.loop c) :: k) S = VC P n (retC P n B ts Q) (.code (.loop c) :: k) S := rfl
theorem vcn_blk (id : Nat) : vcn P n B ts Q (f + 1) (.blk id :: k) S = vcn P n B ts Q f k S := rfl
theorem vcn_done (G : St → Prop) : vcn P n B ts Q (f + 1) (.done G :: k) S = G S := rfl
end
attribute [push_cast] look rmk setk evo evl ownF rd idx cutb ldo ldb ldv bytesV qv intv strv eqb binv isAggD vcs wr fillS partsv bldv bslv updM stI ownB stM dok rval initL gval gb_bool gb_undef cnd_true cnd_false goV skp opn dropTo seqn_nil seqn_cons seqn_guard vcn_zero vcn_nil vcn_skip vcn_seq vcn_block vcn_ret vcn_region vcn_draw vcn_cond vcn_exit vcn_loop vcn_blk vcn_done
  AV.val_v AV.val_o AV.val_s List.range_zero Nat.zero_mod List.getD_cons_zero List.getD_cons_succ Nat.zero_add Nat.add_zero List.toList_toArray Option.isSome_some Option.isSome_none List.cons_append List.nil_append List.append_nil List.getElem?_cons_zero List.getElem?_cons_succ List.getElem?_nil Option.some.injEq
  if_true if_false true_and and_true decide_eq_true_eq List.take_succ_cons List.take_zero List.drop_succ_cons List.drop_zero List.drop_nil List.take_nil List.length_cons List.length_nil List.set_cons_zero List.set_cons_succ List.all_cons List.all_nil Bool.and_true Value.oneCell' Value.cells List.range_succ List.map_cons List.map_nil List.getElem?_toArray Int.toNat_natCast Nat.mul_one Int.natCast_nonneg Int.ofNat_lt Int.ofNat_le Bool.not_eq_true' decide_eq_false_iff_not beq_iff_eq Bool.not_true Bool.not_false bne_iff_ne eq_self List.all_eq_true decide_true decide_false beq_self_eq_true beq_true beq_false Bool.true_beq Bool.false_beq gt_iff_lt ge_iff_le cond_true cond_false Bool.not_eq_eq_eq_not
end Go.Eng
