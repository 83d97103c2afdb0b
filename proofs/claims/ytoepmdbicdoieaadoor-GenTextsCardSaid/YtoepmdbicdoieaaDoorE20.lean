/- The engine, part 20: texts appended to bytes. -/
import Derived.Test.YtoepmdbicdoieaaDoorED
import Derived.Lib.AppendStr
namespace Go.Eng
open Go Go.RowKit Go.Lib
set_option linter.unusedSimpArgs false
set_option linter.unusedVariables false
section
variable {P : Program} {n : Nat} {C : Cx} {k : List KItem} {S : St} {all : Array Oper} {o : Oper} {l : List Oper} {B : Base} {κ : St → Prop} {st : Bool}
theorem Eff.appendS {s x : Operand} {args : Array Operand} {tys : Array TypeId} {t u e : TypeId} {D ut uu : TD} {v : Value} {xs : List Value} {tx : ByteArray} {r : PH} {Rf : List PH}
    (ho : o.op = .call ⟨.builtin .append, args, tys⟩) (ha : args.toList = [s, x]) (htys : tys.toList = [t, u]) (ht : ty P t = some ut) (hut : ut.d = .slice e) (hu : ty P u = some uu) (huu : uu.d = .string) (hD : ty P e = some D) (hd1 : D.size = 1) (hd2 : D.bytes = 1) (hd3 : D.zero = .int .u8 0)
    (hs : evo S.L s = some (.v v)) (hx : evo S.L x = some (.v (.string tx))) (hp : S.R.Perm (r :: Rf)) (hrow : Row r e 1 v xs)
    (hb : xs.length + tx.size ≤ 1000000000)
    (h : ∀ v' r', Row r' e 1 v' (xs ++ strCells tx) → κ ⟨setk S.L o.dst (.v v'), S.M, S.F, r' :: Rf, S.nx⟩) : Eff P n B st o S κ := by
  refine Eff.value fun a w hka hkw => ?_
  have hr : r.In w := (hkw.r r (hp.mem_iff.2 List.mem_cons_self)).1
  obtain ⟨m0, hown, hblk⟩ := hrow.owns hr
  obtain rfl : args = #[s, x] := by cases args; simp at ha; simp [ha]
  obtain rfl : tys = #[t, u] := by cases tys; simp at htys; simp [htys]
  have ht' : P.underlying t = some (.slice e) := by rw [(ty_some ht).1, hut]
  have hu' : P.underlying u = some .string := by rw [(ty_some hu).1, huu]
  obtain ⟨_, i, hi, hi1, hi2, hi3⟩ := ty_some hD
  rw [hd1] at hi1
  rw [hd2] at hi2
  rw [hd3] at hi3
  have he : ∀ v' w', (Builtin.append_ #[t, u] o.type #[v, .string tx]).run P w = .ok v' w' → (execOp a.eval o).run P w = .ok (.value v') w' := by
    intro v' w' hrun
    obtain ⟨dst, op, type, pos, after, guard⟩ := o
    subst ho
    simp only [execOp, resolve, invoke, builtin, Sem.run_bind, Sem.run_pure, Result.andThen_ok, List.map_toArray, List.map_cons, List.map_nil, hka.eval hs, hka.eval hx, AV.val_v, hrun]
  have hxs := hown.1
  have hmx : m0 + tx.size ≤ 1000000000 := by omega
  have key : ∃ v' w', (Builtin.append_ #[t, u] o.type #[v, .string tx]).run P w = .ok v' w' ∧ w'.ownsRow 0 e 1 v' (m0 + tx.size) (xs ++ strCells tx) ∧ w.grownBy w' v.ownBlock ∧ (v'.ownBlock = v.ownBlock ∨ ∃ b, v'.ownBlock = some b ∧ w.heap.size ≤ b) := by
    rcases hown.2 with ⟨rfl, rfl⟩ | ⟨g, cap, cur, rfl, hbg, hg, hnc, hcm, hcs, htake⟩
    · obtain ⟨v', w', k1, k2, k3, k4⟩ := run_append_own_string (P := P) w w.heap.size t u o.type e i ht' hu' hi hi3 hi1 hi2 (.slice none 0 0) 0 xs ⟨hown.1, .inl ⟨rfl, rfl⟩⟩ tx (by unfold maxLen; omega) (by omega) (Nat.le_refl _)
      rcases k2.2 with ⟨rfl, z⟩ | ⟨g, cap, cur, rfl, hbg, z⟩
      · exact ⟨_, w', k1, ⟨k2.1, .inl ⟨rfl, z⟩⟩, k3, .inl rfl⟩
      · exact ⟨_, w', k1, ⟨k2.1, .inr ⟨g, cap, cur, rfl, Nat.zero_le _, z⟩⟩, k3, .inr ⟨g, rfl, hbg⟩⟩
    · obtain ⟨v', w', k1, k2, k3, k4⟩ := run_append_own_string (P := P) w 0 t u o.type e i ht' hu' hi hi3 hi1 hi2 (.slice (some ⟨g, 0, none⟩) m0 cap) m0 xs hown tx (by unfold maxLen; omega) (by omega) (Nat.zero_le _)
      refine ⟨v', w', k1, k2, k3, ?_⟩
      by_cases hroom : m0 + tx.size ≤ cap
      · have hr2 := run_append_room_string (P := P) w t u o.type e i ht' hu' hi hi1 g m0 cap cur hg tx hroom (by omega)
        rw [hr2] at k1
        cases k1
        exact .inl rfl
      · have holds : ∀ j u, xs[j]? = some u → w.cell? ((⟨g, 0, none⟩ : Addr).add j) = some u := hown.cells (g := g) rfl
        have hr2 := run_append_grow_string (P := P) w t u o.type e i (.int .u8 0) ht' hu' hi hi3 ⟨g, 0, none⟩ m0 cap xs (by rw [hi1]; exact hown.1) holds tx (by omega) (by omega) (by rw [hi2]; exact growslice_fits (by omega) (by unfold maxLen at hcm; omega))
        rw [hr2] at k1
        cases k1
        exact .inr ⟨_, rfl, Nat.le_refl _⟩
  obtain ⟨v', w', g1, g2, g3, g4⟩ := key
  obtain ⟨r', hrow', hr', hblk'⟩ := owns_row g2
  refine ⟨.v v', w', S.M, S.F, r' :: Rf, S.nx, ?_, ?_, Stab.refl _ _ _ _, h v' r' hrow'⟩
  · exact he _ _ g1
  · refine hkw.swapR hp g3.os g3.tape g3.output g3.size (fun b hb hn => g3.block b hb (fun e => (hblk b).1 hn e.symm)) hr' (fun b hb => ?_) _ _
    have hb' : v'.ownBlock = some b := Classical.byContradiction fun hc => hb ((hblk' b).2 hc)
    rcases g4 with g4 | ⟨b2, g4, g5⟩
    · exact .inl fun hc => (hblk b).1 hc (by rw [← g4]; exact hb')
    · rw [hb'] at g4
      cases g4
      exact .inr g5
end
end Go.Eng
