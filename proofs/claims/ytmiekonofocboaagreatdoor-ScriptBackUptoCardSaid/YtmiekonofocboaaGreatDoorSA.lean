/- Lists of names, as they lie; small facts of all walks. -/
import Derived.Test.YtmiekonofocboaaGreatDoorTy
import Derived.Test.YtmiekonofocboaaGreatDoorXA
import Derived.Test.YtmiekonofocboaaGreatDoorED
import Derived.IntWalk
namespace Go.Proofs.YtmiekonofocboaaGreatDoor.K
open Go Go.Eng Go.Proofs Go.Proofs.YtmiekonofocboaaGreatDoor.T
set_option linter.unusedSimpArgs false
set_option linter.unusedVariables false
set_option maxRecDepth 100000
theorem mixed : Tryz.prog.follows .mixedOrders = true := by kernel_rfl
theorem wadd (k : Nat) {c : Nat} (h : k < c) (hc : c ≤ maxLen) : IntKind.i64.wrap ((k : Int) + 1) = ((k + 1 : Nat) : Int) := by
  unfold maxLen at hc
  rw [IntWalk.i64_in _ (by omega)]
  simp
theorem one_max : 1 ≤ maxLen := by decide
abbrev RowS (P : Program) (f : FuncId) (args : List Value) (F : PH) (l : List ByteArray) : Prop := RowFn P f args F 9 1 (l.map .string)
theorem sl_strs {F : PH} {v : Value} {m : Nat} {l : List ByteArray} (hm : (l.map Value.string).length = m * 1) (h : Sl F 1 v m (l.map .string)) : Strs F v l := by
  simp at hm; unfold Strs; rw [hm]; exact h
theorem strs_blk {F : PH} {b : Nat} {l : List ByteArray} {e : TypeId} {fr : Nat × Nat} (h : F b = some (.cells (l.map Value.string).toArray e fr)) (hl : l.length ≤ maxLen) : Strs F (.slice (some ⟨b, 0, none⟩) l.length l.length) l :=
  ⟨_, _, rfl, Nat.le_refl _, hl, Src.blk h (by simp)⟩
theorem Row.strs {r F : PH} {e : TypeId} {v : Value} {l : List ByteArray} (h : Row r e 1 v (l.map .string)) (hl : r.le F) : Strs F v l := by
  obtain ⟨m, h1, h2⟩ := h.sl hl
  exact sl_strs h1 h2
def bs (l : List UInt8) : ByteArray := ⟨l.toArray⟩
theorem nil_strs (F : PH) : Strs F (.slice none 0 0) [] := ⟨none, 0, rfl, Nat.le_refl _, Nat.zero_le _, rfl, fun h => absurd h (by simp)⟩
theorem nil_sle {α : Type} (F : PH) (sz : Nat) (R : α → List Value → Prop) : SlE F sz R (.slice none 0 0) [] := ⟨[], ⟨none, 0, rfl, Nat.le_refl _, Nat.zero_le _, by simp, fun h => absurd h (by simp)⟩, rfl⟩
theorem atomVals_at : ∀ (l : List (ByteArray × Int)) (i : Nat) (h : i < l.length), ((atomVals l).drop (i * 2)).take 2 = [.string (l[i]).1, .int .i64 (l[i]).2]
  | a :: l, 0, h => rfl
  | a :: l, i + 1, h => by
    have := atomVals_at l i (by simpa using h)
    rw [show (i + 1) * 2 = i * 2 + 1 + 1 from by omega]
    simpa [atomVals] using this
/-- The first of them. -/
theorem strs_take {F : PH} {q : Addr} {c : Nat} {l : List ByteArray} (h : Strs F (.slice (some q) l.length c) l) {k : Nat} (hk : k ≤ l.length) : Strs F (.slice (some q) k c) (l.take k) := by
  obtain ⟨p, c', e, h1, h2, h3, h4⟩ := h
  cases e
  have hl : (l.take k).length = k := by simp; omega
  refine ⟨_, _, by rw [hl], by omega, h2, by simp, fun hpos => ?_⟩
  obtain ⟨a, ha, hc⟩ := h4 (by simp at hpos; omega)
  cases ha
  refine ⟨_, rfl, ?_⟩
  have := cells_sub hc (o := 0) (m := k * 1) (by omega)
  rw [add_zero'] at this
  rw [hl, List.map_take]
  simpa using this
def hasB (l : List ByteArray) (s : ByteArray) : Bool := l.any (fun n => decide (n = s))
theorem hasB_iff {l : List ByteArray} {s : ByteArray} : hasB l s = true ↔ s ∈ l := by simp [hasB]
theorem hasB_no {l : List ByteArray} {s : ByteArray} (h : ¬ s ∈ l) : hasB l s = false := Bool.eq_false_iff.2 fun e => h (hasB_iff.1 e)
theorem hasB_snoc (l : List ByteArray) (x s : ByteArray) : hasB (l ++ [x]) s = (hasB l s || decide (x = s)) := by simp [hasB]
/-- Has a list a text twice? -/
def twiceB : List ByteArray → List ByteArray → Bool
  | _, [] => false
  | p, s :: l => hasB p s || twiceB (p ++ [s]) l
theorem twiceB_take : ∀ (l p : List ByteArray), twiceB p l = true ↔ ∃ i, ∃ h : i < l.length, hasB (p ++ l.take i) l[i] = true
  | [], p => by simp [twiceB]
  | s :: l, p => by
    simp only [twiceB, Bool.or_eq_true]
    constructor
    · rintro (h | h)
      · exact ⟨0, by simp, by simpa using h⟩
      · obtain ⟨i, hi, h⟩ := (twiceB_take l _).1 h
        exact ⟨i + 1, by simpa using hi, by simpa using h⟩
    · rintro ⟨i, hi, h⟩
      cases i with
      | zero => exact .inl (by simpa using h)
      | succ i => exact .inr ((twiceB_take l _).2 ⟨i, by simpa using hi, by simpa using h⟩)
theorem twiceB_no : ∀ (l p : List ByteArray), p.Nodup → (twiceB p l = false ↔ (p ++ l).Nodup)
  | [], p, h => by simp [twiceB, h]
  | s :: l, p, h => by
    simp only [twiceB, Bool.or_eq_false_iff]
    by_cases hs : s ∈ p
    · rw [hasB_iff.2 hs]
      simp only [reduceCtorEq, false_and, false_iff]
      intro hn
      exact (List.nodup_append.1 hn).2.2 s hs s List.mem_cons_self rfl
    · rw [hasB_no hs]
      have hp : (p ++ [s]).Nodup := by
        rw [List.nodup_append]
        exact ⟨h, by simp, fun a ha b hb => by simp at hb; subst hb; exact fun e => hs (e ▸ ha)⟩
      rw [twiceB_no l _ hp]
      simp
/-- A constructor that is told. -/
structure Dat where
  name : ByteArray
  arity : Int
  at_ : Int
def RDat (d : Dat) (cs : List Value) : Prop := cs = [.string d.name, .int .i64 d.arity, .int .i64 d.at_]
theorem RDat.len {d : Dat} {cs : List Value} (h : RDat d cs) : cs.length = 3 := by rw [h]; rfl
abbrev Dats (F : PH) (v : Value) (l : List Dat) : Prop := SlE F 3 RDat v l
theorem Dats.mono' {F G : PH} {v : Value} {l : List Dat} (h : Dats F v l) (hl : F.le G) : Dats G v l := SlE.mono h hl fun _ _ _ h => h
end Go.Proofs.YtmiekonofocboaaGreatDoor.K
