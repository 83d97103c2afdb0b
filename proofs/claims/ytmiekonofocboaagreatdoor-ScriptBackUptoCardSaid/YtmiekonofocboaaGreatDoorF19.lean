/- The evaluator, part 19: arguments that are not known: their cells. -/
import Derived.Test.YtmiekonofocboaaGreatDoorF18
import Derived.Lib.SmallJoins
set_option linter.unusedVariables false
set_option linter.unusedSectionVars false
set_option linter.unusedSimpArgs false
namespace Go.AM
open Go Go.RowKit Go.Eng
theorem okWide_one {P : Program} {w : World} {r : Reach} {b : Nat} {t : TypeId} {v : Value} (h : Cell.okWide P w r b t v) : v.oneCell' = true := by
  cases v with
  | agg cs => exfalso; unfold Cell.okWide Cell.ok at h; cases hu : P.underlying t with
    | none => rw [hu] at h; exact h
    | some d => rw [hu] at h; cases d <;> exact h
  | tuple cs => exfalso; unfold Cell.okWide Cell.ok at h; cases hu : P.underlying t with
    | none => rw [hu] at h; exact h
    | some d => rw [hu] at h; cases d <;> exact h
  | _ => rfl
/-- A struct that is handed in: its cells, each of them one. -/
theorem okWide_cells {P : Program} {w : World} {r : Reach} {b : Nat} {t : TypeId} {v : Value} {fs : Array Field} (hu : P.underlying t = some (.struct fs)) (h : Value.okWide P w r b t v) : ∃ cs : List Value, v = .agg cs.toArray ∧ cs.length = P.cellsOf t ∧ ∀ c ∈ cs, c.oneCell' = true := by
  unfold Value.okWide at h
  rw [hu] at h
  obtain ⟨cs, rfl, h1, ts, h2, h3, h4⟩ := h
  refine ⟨cs.toList, by simp, by simpa using h1, fun c hc => ?_⟩
  obtain ⟨i, hi, e⟩ := List.getElem_of_mem hc
  obtain ⟨u, _, h5⟩ := h4 i c (by rw [← Array.getElem?_toList, List.getElem?_eq_getElem hi, e])
  exact okWide_one h5
/-- Cells that are not known, as the evaluator has them: numbers from 900 on. -/
def argX : Nat → Nat → X
  | _, 0 => .nl
  | i, n + 1 => .cs (.v i) (argX (i + 1) n)
def valsOf (cs : List Value) : Nat → Value := fun k => cs.getD (k - 900) undef
theorem argX_den {cs : List Value} (h1 : ∀ c ∈ cs, c.oneCell' = true) (hl : cs.length ≤ 100) : ∀ (n i : Nat), i + n = cs.length → denL (env0 (valsOf cs)) (argX (900 + i) n) = some (cs.drop i)
  | 0, i, h => by simp only [argX, denL]; rw [List.drop_eq_nil_of_le (by omega)]
  | n + 1, i, h => by
    have ih := argX_den h1 hl n (i + 1) (by omega)
    have hi : i < cs.length := by omega
    have e1 : (env0 (valsOf cs)) (900 + i) = some ⟨900 + i, 0, 0, 0, none, cs[i]⟩ := by
      simp only [env0, valsOf]
      rw [if_pos (by omega)]
      congr 2
      simp [hi]
    simp only [argX, denL, den, e1]
    rw [if_pos (h1 _ (List.getElem_mem hi))]
    have : 900 + i + 1 = 900 + (i + 1) := by omega
    rw [this, ih]
    simp only
    rw [← List.drop_eq_getElem_cons hi]
theorem arg_den {cs : List Value} (h1 : ∀ c ∈ cs, c.oneCell' = true) {n : Nat} (hl : cs.length = n) (hn : n ≤ 100) : denL (env0 (valsOf cs)) (.cs (.agg (argX 900 n)) .nl) = some [.agg cs.toArray] := by
  have := argX_den h1 (by omega) n 0 (by omega)
  simp only [Nat.add_zero, List.drop_zero] at this
  simp only [denL, den, this]
/-- A variable of the program's, by its cells. -/
theorem glob_mk {F : PH} {g : Nat} {x : X} {vs : List Value} (hg : g < 1024) (hx : ∀ vals, denL (env0 vals) x = some vs) (hne : vs ≠ []) (hc : ∀ (j : Nat) v, vs[j]? = some v → F.cell ⟨g, j, none⟩ = some v) : GlobIn F [(g, x)] := by
  intro p hp
  cases List.mem_singleton.1 hp
  refine ⟨hg, vs, ?_⟩
  obtain ⟨v0, r, rfl⟩ := List.exists_cons_of_ne_nil hne
  have h0 := hc 0 v0 rfl
  unfold PH.cell at h0
  cases hb : F g with
  | none => rw [hb] at h0; cases h0
  | some o =>
    rw [hb] at h0
    cases o <;> first | (cases h0; done) | skip
    rename_i c t fr
    refine ⟨c, t, fr, rfl, hx, fun j v hj => ?_⟩
    have := hc j v hj
    unfold PH.cell at this
    rw [hb] at this
    simpa using this
end Go.AM
