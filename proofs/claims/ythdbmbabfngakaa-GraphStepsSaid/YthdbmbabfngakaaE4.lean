/- The engine, part 4: every quiet operation comes to the value that was reckoned; regions, guards, and what turns memory of the call's own. -/
import Derived.Test.YthdbmbabfngakaaE3
namespace Go.Eng
open Go Go.RowKit

section
variable {P : Program} {B : Base} {S : St} {w : World} {n : Nat} {a : Act}

theorem run_value' {o : Oper} {s : Sem Value} {v : Value} {w' : World} (h : execOp a.eval o = (do pure (.value (← s)))) (hs : s.run P w = .ok v w') : (execOp a.eval o).run P w = .ok (.value v) w' := by
  rw [h]; simp [hs]
theorem fdAt_run {t : TypeId} {f off : Nat} {D : TD} (h : fdAt P t f = some (off, D)) :
    ∃ fs fd, P.underlying t = some (.struct fs) ∧ fs[f]? = some fd ∧ fd.offset = off ∧ ty P fd.type = some D := by
  unfold fdAt at h
  split at h
  · rename_i fs ht
    split at h
    · rename_i fd hf
      split at h
      · rename_i D' hD
        cases h
        exact ⟨fs, fd, ht, hf, rfl, hD⟩
      · cases h
    · cases h
  · cases h
theorem part_run {t : TypeId} {D : TD} (ht : ty P t = some D) {cs : Array Value} {off : Nat} {v : Value} (h : rd D cs.toList off = some v) : (part t cs off).run P w = .ok v w := by
  unfold rd at h
  by_cases hag : isAggD D.d = true
  · rw [if_pos hag] at h
    split at h
    · cases h
      simp only [part, Sem.run_bind, ty_agg ht, Result.andThen_ok, hag, if_true, ty_size ht, Sem.run_pure]
      congr 2
      apply Array.ext'
      simp [Array.toList_extract, List.extract]
    · cases h
  · rw [if_neg hag] at h
    simp only [part, Sem.run_bind, ty_agg ht, Result.andThen_ok, hag]
    have : cs[off]? = some v := by simpa using h
    simp [this]
theorem boundOf {k : IntKind} {h : Int} {c : Nat} (h0 : 0 ≤ h ∧ h ≤ (c : Int)) (code : BoundsCode) : (Instr.sliceBound (.int k h) c code).run P w = .ok h.toNat w := by
  simp [Instr.sliceBound, asIntOf, h0.1, h0.2]
theorem cut_one (ha : Kn n S.L a) {c d h : Nat} {hi : Option Operand} (eh : (match hi with
    | none => some d
    | some h => match evo S.L h with
      | some (.v (.int _ h)) => if 0 ≤ h ∧ h ≤ (c : Int) then some h.toNat else none
      | _ => none) = some h) : (hi = none ∧ h = d) ∨ ∃ x k v, hi = some x ∧ a.eval x = .int k v ∧ (0 ≤ v ∧ v ≤ (c : Int)) ∧ h = v.toNat := by
  cases hi with
  | none => simp only [Option.some.injEq] at eh; exact .inl ⟨rfl, eh.symm⟩
  | some x =>
    simp only at eh
    split at eh
    · rename_i k v hx
      split at eh
      · rename_i hb
        cases eh
        exact .inr ⟨x, k, v, rfl, ha.eval hx, hb, rfl⟩
      · cases eh
    · cases eh
theorem cutb_run (ha : Kn n S.L a) {len cap l h : Nat} {lo hi : Option Operand} (e : cutb S len cap lo hi = some (l, h)) (sl : Bool) :
    (Instr.sliceBounds sl len cap (lo.map a.eval) (hi.map a.eval) none).run P w = .ok (l, h, cap) w := by
  unfold cutb at e
  split at e
  · cases e
  · rename_i h' eh
    split at e
    · cases e
    · rename_i l' el
      cases e
      rcases cut_one ha eh with ⟨rfl, rfl⟩ | ⟨x, k, v, rfl, hx, hb, rfl⟩ <;> rcases cut_one ha el with ⟨rfl, rfl⟩ | ⟨x', k', v', rfl, hx', hb', rfl⟩
      · simp [Instr.sliceBounds]
      · simp [Instr.sliceBounds, hx', boundOf hb']
      · simp [Instr.sliceBounds, hx, boundOf hb]
      · simp [Instr.sliceBounds, hx, hx', boundOf hb, boundOf hb']
set_option maxHeartbeats 1000000 in
theorem qv_run (ha : Kn n S.L a) (hw : Sat B S w) {o : Oper} {y : AV} (h : qv P S o.op = some y) : (execOp a.eval o).run P w = .ok (.value y.val) w := by
  obtain ⟨dst, op, type, pos, after, guard⟩ := o
  simp only at h
  unfold qv at h
  split at h
  · simp [execOp, ha.eval h]
  · simp [execOp, ha.eval h]
  · split at h
    · rename_i hc
      rename_i c x1 x2 t
      simp only [execOp, ha.eval hc, asBool, Sem.run_bind, Sem.run_pure]
      cases t <;> simp only [cond_true, cond_false] at h <;> simp [ha.eval h]
    · cases h
  · split at h
    · rename_i h1 h2
      split at h
      · rename_i hv
        cases h
        obtain ⟨g1, g2⟩ := binv_run (w := w) hv
        refine run_value rfl ?_
        simp only [ha.eval h1, ha.eval h2, Sem.run_bind, g1, Result.andThen_ok, g2, AV.val_v]
      · cases h
    · cases h
  · split at h
    · rename_i h2
      cases h
      refine run_value rfl ?_
      simp [ha.eval h2, Op.unary]
    · rename_i h2
      cases h
      refine run_value rfl ?_
      simp [ha.eval h2, Op.unary, Op.intArith]
    · cases h
  · split at h
    · rename_i h1 h2 h3
      cases h
      refine run_value rfl ?_
      simp [convert, ha.eval h3, ty_underlying h1, ty_underlying h2, Conv.intToInt]
    · cases h
  · split at h
    · rename_i h1 h2
      cases h
      refine run_value rfl ?_
      simp [Instr.makeInterface, ty_underlying h1, ha.eval h2]
    · rename_i h1 h2
      cases h
      refine run_value rfl ?_
      simp [Instr.makeInterface, ty_underlying h1, ha.eval h2]
    · rename_i h1 h2
      cases h
      refine run_value rfl ?_
      simp [Instr.makeInterface, ty_underlying h1, ha.eval h2]
    · cases h
  · split at h
    · rename_i fn first cap f c h1 h2
      cases h
      refine run_value rfl ?_
      have e1 := ha.evals h1
      have e2 := ha.evals h2
      simp only [Instr.makeFunc, Sem.run_pure, AV.val_v]
      rw [← e1, ← e2]
      rw [← Array.toList_map, ← Array.toList_map]
    · cases h
  · split at h
    · rename_i h1
      split at h
      · rename_i hv
        cases h
        refine run_value rfl ?_
        simp [ha.eval h1, Instr.extract, hv]
      · cases h
    · cases h
  · split at h
    · rename_i h1 h2
      split at h
      · rename_i hv
        cases h
        obtain ⟨fs, fd, g1, g2, g3, g4⟩ := fdAt_run h1
        refine run_value rfl ?_
        subst g3
        simp [ha.eval h2, Instr.field, run_underlying g1, g2, asAgg, part_run g4 hv]
      · cases h
    · cases h
  · split at h
    · rename_i h1 h2
      split at h
      · cases h
      · rename_i hz
        cases h
        obtain ⟨fs, fd, g1, g2, g3, g4⟩ := fdAt_run h1
        refine run_value rfl ?_
        subst g3
        simp [ha.eval h2, Instr.fieldAt, run_underlying g1, g2, Instr.sureAddr, fieldPlace, ty_size g4, hz, add_own]
    · rename_i h1 h2
      split at h
      · cases h
      · rename_i hz
        cases h
        obtain ⟨fs, fd, g1, g2, g3, g4⟩ := fdAt_run h1
        refine run_value rfl ?_
        subst g3
        simp [ha.eval h2, Instr.fieldAt, run_underlying g1, g2, Instr.sureAddr, fieldPlace, ty_size g4, hz]
    · cases h
  · split at h
    · rename_i h2
      cases h
      simp [execOp, ha.eval h2]
    · rename_i h2
      cases h
      simp [execOp, ha.eval h2]
    · cases h
  · split at h
    · rename_i h1 h2 h3
      split at h
      · rename_i hi hD
        cases h
        unfold idx at hi
        split at hi
        · rename_i hb
          cases hi
          refine run_value rfl ?_
          simp [ha.eval h2, ha.eval h3, Instr.indexAt, asIntOf, ty_underlying h1, hb, ty_size hD]
        · cases hi
      · cases h
    · rename_i h1 h2 h3
      split at h
      · rename_i hi hD
        cases h
        unfold idx at hi
        split at hi
        · rename_i hb
          cases hi
          refine run_value rfl ?_
          simp [ha.eval h2, ha.eval h3, Instr.indexAt, asIntOf, ty_underlying h1, hb, ty_size hD, add_own]
        · cases hi
      · cases h
    · rename_i h1 h2 h3
      split at h
      · rename_i hi hD
        cases h
        unfold idx at hi
        split at hi
        · rename_i hb
          cases hi
          refine run_value rfl ?_
          simp [ha.eval h2, ha.eval h3, Instr.indexAt, asIntOf, ty_underlying h1, hb, ty_size hD, add_own, Instr.sureAddr]
        · cases hi
      · cases h
    · rename_i h1 h2 h3
      split at h
      · rename_i hi hD
        cases h
        unfold idx at hi
        split at hi
        · rename_i hb
          cases hi
          refine run_value rfl ?_
          simp [ha.eval h2, ha.eval h3, Instr.indexAt, asIntOf, ty_underlying h1, hb, ty_size hD, Instr.sureAddr]
        · cases hi
      · cases h
    · cases h
  · split at h
    · rename_i h1 h2 h3
      split at h
      · rename_i hi
        cases h
        unfold idx at hi
        split at hi
        · rename_i hb
          cases hi
          refine run_value rfl ?_
          simp [ha.eval h2, ha.eval h3, Instr.index, asIntOf, ty_underlying h1, hb]
          rfl
        · cases hi
      · cases h
    · cases h
  · split at h
    · rename_i h2
      refine run_value rfl ?_
      rw [ha.eval h2]
      exact ldv_run hw h
    · cases h
  · split at h
    · rename_i h1 h2
      split at h
      · rename_i hc
        cases h
        refine run_value rfl ?_
        simp [ha.eval h2, Instr.sliceAt, Instr.slice, ty_underlying h1, cutb_run ha hc]
      · cases h
    · rename_i h1 h2
      split at h
      · rename_i hc hD
        cases h
        refine run_value rfl ?_
        simp [ha.eval h2, Instr.sliceAt, Instr.slice, ty_underlying h1, cutb_run ha hc, ty_size hD]
      · cases h
    · cases h
  · rename_i args tys
    split at h
    · rename_i x t e1 e2
      obtain rfl : args = #[x] := by cases args; simp at e1; simp [e1]
      obtain rfl : tys = #[t] := by cases tys; simp at e2; simp [e2]
      split at h <;> first
        | (cases h; done)
        | (rename_i h1 h2
           cases h
           simp [execOp, resolve, invoke, builtin, Builtin.len_, ha.eval h2, ty_underlying h1, goInt])
    · cases h
  · cases h
end
end Go.Eng
