/- The engine, part 17: scopes and labels; slices that are made; rows that become blocks of the call's own, and back. -/
import Derived.Test.YthdbmbabfngakaaE16
import Derived.Scope
import Derived.Laws.MakeOwn
namespace Go.Eng
open Go Go.RowKit
set_option linter.unusedSimpArgs false
set_option linter.unusedVariables false
section
variable {P : Program} {n : Nat} {C : Cx} {k : List KItem} {S : St} {o : Oper} {B : Base} {st : Bool} {κ : St → Prop}
theorem VC.scope {c : Code} (h : VC P n C (.code c :: k) S) : VC P n C (.code (.scope c) :: k) S := fun a w ha hw =>
  wp_scope_straight (wp_mono (h a w ha hw) fun e a w q => by cases e <;> exact q)
theorem VC.label {l : Nat} (h : VC P n C k S) : VC P n C (.code (.label l) :: k) S := fun a w ha hw => wp_label (h a w ha hw)
/-- A slice that is made: a block of the call's own. -/
theorem Eff.makeSlice {t e : TypeId} {u D : TD} {l c : Operand} {kl kc : IntKind} {m : Nat} (ho : o.op = .makeSlice t l c) (ht : ty P t = some u) (hu : u.d = .slice e) (hD : ty P e = some D)
    (hl : evo S.L l = some (.v (.int kl (m : Int)))) (hc : evo S.L c = some (.v (.int kc (m : Int)))) (hb : D.bytes * m ≤ 281474976710656) (hm : m ≤ maxLen)
    (h : ∀ b, κ ⟨setk S.L o.dst (.s S.nx b 0 m m), S.M ++ [⟨S.nx, b, e, (madeCells D.zero.cells (m * D.size)).toList⟩], S.F, S.R, S.nx + 1⟩) : Eff P n B st o S κ := by
  refine Eff.value fun a w ha hw => ⟨.s S.nx w.heap.size 0 m m, w.alloc (.cells (madeCells D.zero.cells (m * D.size)).toList.toArray e), _, _, _, _, ?_, hw.push e (madeCells D.zero.cells (m * D.size)).toList S.L S.nx (S.nx + 1), Stab.push _ _ _ _ _, h w.heap.size⟩
  obtain ⟨dst, op, type, pos, after, guard⟩ := o
  subst ho
  have e1 : execOp a.eval ⟨dst, .makeSlice t l c, type, pos, after, guard⟩ = (do pure (.value (← Instr.makeSlice t (a.eval l) (a.eval c)))) := rfl
  have hu' : P.underlying t = some (.slice e) := by rw [(ty_some ht).1, hu]
  obtain ⟨_, i, hi, h1, h2, h3⟩ := ty_some hD
  have h63 : (m : Int) ≤ 9223372036854775807 := by unfold maxLen at hm; omega
  have hb' : (i.bytes : Int) * (m : Int) ≤ 281474976710656 := by
    rw [h2]
    have : ((D.bytes * m : Nat) : Int) ≤ 281474976710656 := by omega
    rwa [Int.natCast_mul] at this
  have hr := run_make (P := P) w t e i D.zero hu' hi h3 kl kc m m (by omega) (Int.le_refl _) hb' h63
  simp only [Int.toNat_natCast, h1] at hr
  rw [e1, ha.eval hl, ha.eval hc]
  simp only [AV.val, Sem.run_bind, hr, Result.andThen_ok, Array.toArray_toList]
  rfl
end
/-- A row of the call's own, as a block of its own. -/
theorem Row.cells {r : PH} {e : TypeId} {sz : Nat} {p : Addr} {m c : Nat} {xs : List Value} (h : Row r e sz (.slice (some p) m c) xs) : ∃ g cs, p = ⟨g, 0, none⟩ ∧ r = cell1 g e cs ∧ cs.length = c * sz ∧ m ≤ c ∧ c ≤ maxLen ∧ cs.take (m * sz) = xs ∧ xs.length = m * sz := by
  rcases h with ⟨e1, _⟩ | ⟨g, m', cap, cur, e1, h1, rfl, h2, h3, h4, h5⟩
  · cases e1
  · cases e1
    exact ⟨g, cur.toList, rfl, by simp [cell1], by simp [h4], h2, h3, h5, h1⟩
theorem Row.back {g : Nat} {e : TypeId} {sz m c : Nat} {cs : List Value} (h1 : cs.length = c * sz) (h2 : m ≤ c) (h3 : c ≤ maxLen) : Row (cell1 g e cs) e sz (.slice (some ⟨g, 0, none⟩) m c) (cs.take (m * sz)) :=
  .inr ⟨g, m, c, cs.toArray, rfl, by rw [List.length_take, h1]; exact Nat.min_eq_left (Nat.mul_le_mul_right _ h2), rfl, h2, h3, by simp [h1], by simp⟩
section
variable {P : Program} {n : Nat} {C : Cx} {k : List KItem} {S : St}
/-- A block of the call's own, lent from now on. -/
theorem VC.toR {m : Own} {M : List Own} (hm : S.M.Perm (m :: M)) (L : KL) (hL : subv S.L L) (h : VC P n C k ⟨L, M, S.F, cell1 m.b m.t m.cs :: S.R, S.nx⟩) : VC P n C k S :=
  VC.reL L hL fun a w ha hw => h a w ha (Shift.toR hm L S.nx _ _ (hw.setL S.L S.nx))
end
end Go.Eng
