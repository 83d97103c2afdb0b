/- The engine, part 16: append to a full slice that never turns: it is laid anew. -/
import Derived.Test.YthdbmbabfngakaaE15
import Derived.ArgAppend
namespace Go.Eng
open Go Go.RowKit
set_option linter.unusedSimpArgs false
set_option linter.unusedVariables false
section
variable {P : Program} {n : Nat} {S : St} {o : Oper} {B : Base} {st : Bool} {κ : St → Prop}
theorem Src.cellw {F : PH} {p : Option Addr} {k : Nat} {ys : List Value} {a : Addr} (h : Src F p k ys) (hp : p = some a) {w : World} (hF : F.In w) : ∀ j u, ys[j]? = some u → w.cell? (a.add j) = some u := by
  intro j u hj
  have hlt : j < ys.length := by
    rcases Nat.lt_or_ge j ys.length with h' | h'
    · exact h'
    · rw [List.getElem?_eq_none h'] at hj; cases hj
  obtain ⟨a', h1, h2⟩ := h.2 (by rw [← h.1]; omega)
  rw [hp] at h1
  cases h1
  exact hF.cell ((PH.cells_get h2).2 j u hj)
theorem Eff.appendG {s x : Operand} {args : Array Operand} {tys : Array TypeId} {t e : TypeId} {D : TD} {u : TD} {a0 : Addr} {n0 cap m c : Nat} {xs ys : List Value} {p : Option Addr}
    (ho : o.op = .call ⟨.builtin .append, args, tys⟩) (ha : args.toList = [s, x]) (htys : tys.toList = [t, t]) (ht : ty P t = some u) (hu : u.d = .slice e) (hD : ty P e = some D) (hz : D.size = D.zero.cells.size) (hpos : 0 < D.size)
    (hs : evo S.L s = some (.v (.slice (some a0) n0 cap))) (hx : evo S.L x = some (.v (.slice p m c))) (hold : Src S.F (some a0) (n0 * D.size) xs) (hsrc : Src S.F p (m * D.size) ys) (hcap : n0 ≤ cap) (hg : cap < n0 + m)
    (hb : xs.length + ys.length ≤ 1000000000) (hby : D.bytes ≤ 1000)
    (h : ∀ v' r', Row r' e D.size v' (xs ++ ys) → κ ⟨setk S.L o.dst (.v v'), S.M, S.F, r' :: S.R, S.nx⟩) : Eff P n B st o S κ := by
  refine Eff.value fun a w hka hkw => ?_
  obtain rfl : args = #[s, x] := by cases args; simp at ha; simp [ha]
  obtain rfl : tys = #[t, t] := by cases tys; simp at htys; simp [htys]
  have hu' : P.underlying t = some (.slice e) := by rw [(ty_some ht).1, hu]
  obtain ⟨_, i, hi, hi1, hi2, hi3⟩ := ty_some hD
  obtain ⟨ad, rfl⟩ : ∃ ad, p = some ad := by
    obtain ⟨a', h1, _⟩ := hsrc.2 (Nat.mul_pos (by omega) hpos)
    exact ⟨a', h1⟩
  have hle : n0 + m ≤ xs.length + ys.length := by
    rw [hold.1, hsrc.1]
    have := Nat.mul_le_mul_left n0 hpos
    have := Nat.mul_le_mul_left m hpos
    omega
  obtain ⟨v', w', g1, g2, g3⟩ := run_append_arg_grows (P := P) w t o.type e i D.zero D.size D.bytes hu' hi hi3 hi1 hi2 hz.symm hpos a0 n0 cap xs hold.1 (hold.cellw rfl hkw.f) ad m c ys hsrc.1 (hsrc.cellw rfl hkw.f) hg (by unfold maxLen; omega) (by
    have := Nat.mul_le_mul (show n0 + m ≤ 1000000000 by omega) hby
    omega)
  have g2' : w'.ownsRow 0 e D.size v' (n0 + m) (xs ++ ys) := by
    obtain ⟨k1, k2⟩ := g2
    refine ⟨k1, ?_⟩
    rcases k2 with k2 | ⟨g, cap', cur, q1, q2, q3⟩
    · exact .inl k2
    · exact .inr ⟨g, cap', cur, q1, Nat.zero_le _, q3⟩
  have hnew : ∀ b, v'.ownBlock = some b → w.heap.size ≤ b := by
    intro b hb
    rcases g2.2 with ⟨rfl, _⟩ | ⟨g, cap', cur, rfl, q2, q3⟩
    · simp [Value.ownBlock] at hb
    · simp [Value.ownBlock] at hb
      omega
  obtain ⟨r', hrow', hr', hblk'⟩ := owns_row g2'
  refine ⟨.v v', w', S.M, S.F, r' :: S.R, S.nx, ?_, ?_, Stab.refl _ _ _ _, h v' r' hrow'⟩
  · obtain ⟨dst, op, type, pos, after, guard⟩ := o
    subst ho
    simp only [execOp, resolve, invoke, builtin, Sem.run_bind, Sem.run_pure, Result.andThen_ok, List.map_toArray, List.map_cons, List.map_nil, hka.eval hs, hka.eval hx, AV.val_v, g1]
  · refine hkw.emp.swapR (r := PH.emp) (r' := r') (Rf := S.R) (List.Perm.refl _) g3.os g3.tape g3.output g3.size (fun b hb _ => g3.block b hb (fun e => nomatch e)) hr' (fun b hb => .inr (hnew b ?_)) _ _
    exact Classical.byContradiction fun hc => hb ((hblk' b).2 hc)
end
end Go.Eng
