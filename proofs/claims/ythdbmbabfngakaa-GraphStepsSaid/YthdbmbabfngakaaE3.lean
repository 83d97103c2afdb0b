/- The engine, part 3: the value of every quiet operation, and the proof of it. -/
import Derived.Test.YthdbmbabfngakaaE2
namespace Go.Eng
open Go Go.RowKit

def ownF : List Own → Nat → Option Own
  | [], _ => none
  | o :: M, i => if o.i = i then some o else ownF M i
theorem ownF_mem : ∀ {M : List Own} {i : Nat} {o : Own}, ownF M i = some o → o ∈ M
  | [], _, _, h => by cases h
  | x :: M, i, o, h => by
    simp only [ownF] at h
    split at h
    · cases h; exact List.mem_cons_self
    · exact List.mem_cons_of_mem _ (ownF_mem h)
/-- A part of a row of cells, read as a type's value. -/
def rd (D : TD) (cs : List Value) (off : Nat) : Option Value :=
  if isAggD D.d = true then (if off + D.size ≤ cs.length then some (.agg ((cs.drop off).take D.size).toArray) else none) else cs[off]?
def fdAt (P : Program) (t : TypeId) (f : Nat) : Option (Nat × TD) :=
  match P.underlying t with
  | some (.struct fs) => match fs[f]? with
    | some fd => match ty P fd.type with
      | some D => some (fd.offset, D)
      | none => none
    | none => none
  | _ => none
theorem fdAt_mk {P : Program} {t : TypeId} {f off : Nat} {ft : TypeId} {fs : Array Field} {D : TD} (h : P.underlying t = some (.struct fs)) (hf : (fs[f]?).map (fun fd => (fd.offset, fd.type)) = some (off, ft)) (hD : ty P ft = some D) : fdAt P t f = some (off, D) := by
  unfold fdAt
  cases e : fs[f]? with
  | none => rw [e] at hf; cases hf
  | some fd =>
    rw [e] at hf
    cases hf
    simp [h, e, hD]
def idx (i : Int) (len : Nat) : Option Nat := if 0 ≤ i ∧ i < (len : Int) then some i.toNat else none
/-- The bounds of x[lo:hi]. -/
def cutb (S : St) (len cap : Nat) (lo hi : Option Operand) : Option (Nat × Nat) :=
  match (match hi with
    | none => some len
    | some h => match evo S.L h with
      | some (.v (.int _ h)) => if 0 ≤ h ∧ h ≤ (cap : Int) then some h.toNat else none
      | _ => none) with
  | none => none
  | some h => match (match lo with
    | none => some 0
    | some l => match evo S.L l with
      | some (.v (.int _ l)) => if 0 ≤ l ∧ l ≤ (h : Int) then some l.toNat else none
      | _ => none) with
    | none => none
    | some l => some (l, h)
def ldv (P : Program) (S : St) (t : TypeId) (x : AV) : Option AV :=
  match ty P t with
  | none => none
  | some D => match x with
    | .o i b off => match ownF S.M i with
      | some o => if o.b = b then (match rd D o.cs off with | some v => some (.v v) | none => none) else none
      | none => none
    | .v (.pointer (some a)) => if isAggD D.d = true then (match S.F.cells a D.size with | some l => some (.v (.agg l.toArray)) | none => none) else (match S.F.cell a with | some v => some (.v v) | none => none)
    | _ => none
def lenv (x : AV) : Option AV :=
  match x with
  | .v (.string s) => some (.v (.int .i64 s.size))
  | .v (.slice _ n _) => some (.v (.int .i64 n))
  | .s _ _ _ n _ => some (.v (.int .i64 n))
  | .v (.map none) => some (.v (.int .i64 0))
  | _ => none
def qv (P : Program) (S : St) : Op → Option AV
  | .move x => evo S.L x
  | .assign x => evo S.L x
  | .pick c a b => match evo S.L c with
    | some (.v (.bool t)) => bif t then evo S.L a else evo S.L b
    | _ => none
  | .binOp op t x y _ => match evo S.L x, evo S.L y with
    | some a, some b => (match binv P op t a.val b.val with | some v => some (.v v) | none => none)
    | _, _ => none
  | .unOp op _ x => match op, evo S.L x with
    | .not, some (.v (.bool b)) => some (.v (.bool (!b)))
    | .neg, some (.v (.int k n)) => some (.v (.int k (k.wrap (0 - n))))
    | _, _ => none
  | .convert s d x => match ty P s, ty P d, evo S.L x with
    | some _, some ⟨.int k, _, _, _⟩, some (.v (.int _ n)) => some (.v (.int k (k.wrap n)))
    | _, _, _ => none
  | .makeInterface t x => match ty P t, evo S.L x with
    | some ⟨.int _, _, _, _⟩, some y => some (.v (.iface t y.val))
    | some ⟨.string, _, _, _⟩, some y => some (.v (.iface t y.val))
    | some ⟨.struct _, _, _, _⟩, some y => some (.v (.iface t y.val))
    | _, _ => none
  | .makeFunc fn first cap => match evl S.L first.toList, evl S.L cap.toList with
    | some f, some c => some (.v (.func fn f.toArray c.toArray))
    | _, _ => none
  | .extract x i => match evo S.L x with
    | some (.v (.tuple vs)) => (match vs[i]? with | some v => some (.v v) | none => none)
    | _ => none
  | .field t x f => match fdAt P t f, evo S.L x with
    | some (off, D), some (.v (.agg cs)) => (match rd D cs.toList off with | some v => some (.v v) | none => none)
    | _, _ => none
  | .fieldAddr t x f => match fdAt P t f, evo S.L x with
    | some (fo, D), some (.o i b off) => if D.size = 0 then none else some (.o i b (off + fo))
    | some (fo, D), some (.v (.pointer (some a))) => if D.size = 0 then none else some (.v (.pointer (some (a.add fo))))
    | _, _ => none
  | .nilCheck x => match evo S.L x with
    | some (.o i b off) => some (.o i b off)
    | some (.v (.pointer (some a))) => some (.v (.pointer (some a)))
    | _ => none
  | .indexAddr t x ix => match ty P t, evo S.L x, evo S.L ix with
    | some ⟨.slice e, _, _, _⟩, some (.v (.slice (some a) len _)), some (.v (.int _ i)) => (match idx i len, ty P e with
      | some j, some D => some (.v (.pointer (some (a.add (j * D.size)))))
      | _, _ => none)
    | some ⟨.slice e, _, _, _⟩, some (.s n b off len _), some (.v (.int _ i)) => (match idx i len, ty P e with
      | some j, some D => some (.o n b (off + j * D.size))
      | _, _ => none)
    | some ⟨.array len e, _, _, _⟩, some (.o n b off), some (.v (.int _ i)) => (match idx i len, ty P e with
      | some j, some D => some (.o n b (off + j * D.size))
      | _, _ => none)
    | some ⟨.array len e, _, _, _⟩, some (.v (.pointer (some a))), some (.v (.int _ i)) => (match idx i len, ty P e with
      | some j, some D => some (.v (.pointer (some (a.add (j * D.size)))))
      | _, _ => none)
    | _, _, _ => none
  | .index t x ix => match ty P t, evo S.L x, evo S.L ix with
    | some ⟨.string, _, _, _⟩, some (.v (.string s)), some (.v (.int _ i)) => (match idx i s.size with
      | some j => some (.v (.int .u8 (s.data.getD j 0).toNat))
      | none => none)
    | _, _, _ => none
  | .load t a => match evo S.L a with
    | some x => ldv P S t x
    | none => none
  | .slice t x lo hi none => match ty P t, evo S.L x with
    | some ⟨.string, _, _, _⟩, some (.v (.string s)) => (match cutb S s.size s.size lo hi with
      | some (l, h) => some (.v (.string (s.extract l h)))
      | none => none)
    | some ⟨.slice e, _, _, _⟩, some (.v (.slice a len cap)) => (match cutb S len cap lo hi, ty P e with
      | some (l, h), some D => some (.v (.slice (if cap = l then a else a.map (·.add (l * D.size))) (h - l) (cap - l)))
      | _, _ => none)
    | _, _ => none
  | .call ⟨.builtin .len, args, tys⟩ => match args.toList, tys.toList with
    | [x], [t] => (match ty P t, evo S.L x with
      | some ⟨.string, _, _, _⟩, some (.v (.string s)) => some (.v (.int .i64 s.size))
      | some ⟨.slice _, _, _, _⟩, some (.v (.slice _ n _)) => some (.v (.int .i64 n))
      | some ⟨.slice _, _, _, _⟩, some (.s _ _ _ n _) => some (.v (.int .i64 n))
      | some ⟨.map _ _, _, _, _⟩, some (.v (.map none)) => some (.v (.int .i64 0))
      | some ⟨.array n _, _, _, _⟩, some _ => some (.v (.int .i64 n))
      | _, _ => none)
    | _, _ => none
  | _ => none

section
variable {P : Program} {B : Base} {S : St} {w : World} {n : Nat} {a : Act}

theorem run_value {o : Oper} {s : Sem Value} {v : Value} (h : execOp a.eval o = (do pure (.value (← s)))) (hs : s.run P w = .ok v w) : (execOp a.eval o).run P w = .ok (.value v) w := by
  rw [h]; simp [hs]
theorem Sat.own_heap (hw : Sat B S w) {i : Nat} {o : Own} (h : ownF S.M i = some o) : w.heap[o.b]? = some (.cells o.cs.toArray o.t (0, 0)) := (hw.m o (ownF_mem h)).1
theorem Sat.own_cell (hw : Sat B S w) {i : Nat} {o : Own} (h : ownF S.M i = some o) (off : Nat) : w.cell? ⟨o.b, off, none⟩ = o.cs[off]? := by
  simp [World.cell?, hw.own_heap h]
theorem add_own (b off n : Nat) : (⟨b, off, none⟩ : Addr).add n = ⟨b, off + n, none⟩ := by
  unfold Addr.add
  split
  · subst_vars; rfl
  · rfl
theorem run_load_list {t : TypeId} {D : TD} (ht : ty P t = some D) {p : Addr} {l : List Value} (hl : l.length = D.size) (hc : ∀ j v, l[j]? = some v → w.cell? (p.add j) = some v) (hag : isAggD D.d = true) :
    (Instr.loadAt t (.pointer (some p))).run P w = .ok (.agg l.toArray) w := by
  have h1 := run_loadCells_list (P := P) w p l hc
  rw [hl] at h1
  simp [Instr.loadAt, Instr.sureAddr, loadVar, ty_agg ht, hag, ty_size ht, h1]
theorem run_load_one {t : TypeId} {D : TD} (ht : ty P t = some D) {p : Addr} {v : Value} (hc : w.cell? p = some v) (hag : isAggD D.d = false) :
    (Instr.loadAt t (.pointer (some p))).run P w = .ok v w := by
  simp [Instr.loadAt, Instr.sureAddr, loadVar, ty_agg ht, hag, load, Sem.run, hc]
theorem PH.cells_get {F : PH} {p : Addr} : ∀ {n : Nat} {l : List Value}, F.cells p n = some l → l.length = n ∧ ∀ j v, l[j]? = some v → F.cell (p.add j) = some v
  | 0, l, h => by simp only [PH.cells, Option.some.injEq] at h; subst h; exact ⟨rfl, fun j v h => by simp at h⟩
  | n + 1, l, h => by
    simp only [PH.cells] at h
    cases h1 : F.cells p n with
    | none => rw [h1] at h; cases h
    | some x =>
      cases h2 : F.cell (p.add n) with
      | none => rw [h1, h2] at h; cases h
      | some y =>
        rw [h1, h2] at h
        simp only [Option.some.injEq] at h
        subst h
        obtain ⟨g1, g2⟩ := PH.cells_get h1
        refine ⟨by simp [g1], fun j v hj => ?_⟩
        rw [List.getElem?_append] at hj
        split at hj
        · exact g2 j v hj
        · have : j = n := by
            rcases Nat.lt_or_ge (j - x.length) 1 with h' | h'
            · omega
            · rw [List.getElem?_eq_none (by simpa using h')] at hj; cases hj
          subst this
          rw [g1] at hj
          simp at hj
          subst hj
          exact h2
theorem ldv_run (hw : Sat B S w) {t : TypeId} {x y : AV} (h : ldv P S t x = some y) : (Instr.loadAt t x.val).run P w = .ok y.val w := by
  unfold ldv at h
  split at h
  · cases h
  · rename_i D ht
    split at h
    · rename_i i b off
      split at h
      · rename_i o ho
        split at h
        · rename_i hb
          subst hb
          unfold rd at h
          by_cases hag : isAggD D.d = true
          · rw [if_pos hag] at h
            by_cases hl : off + D.size ≤ o.cs.length
            · rw [if_pos hl] at h
              cases h
              refine run_load_list ht (by simp; omega) ?_ hag
              intro j v hj
              rw [add_own, hw.own_cell ho]
              rw [List.getElem?_take] at hj
              split at hj
              · rw [List.getElem?_drop] at hj; exact hj
              · cases hj
            · rw [if_neg hl] at h; cases h
          · rw [if_neg hag] at h
            cases hv : o.cs[off]? with
            | none => rw [hv] at h; cases h
            | some v =>
              rw [hv] at h
              cases h
              exact run_load_one ht (by rw [hw.own_cell ho]; exact hv) (by simpa using hag)
        · cases h
      · cases h
    · rename_i p
      split at h
      · rename_i hag
        split at h
        · rename_i l hl
          cases h
          obtain ⟨g1, g2⟩ := PH.cells_get hl
          exact run_load_list ht g1 (fun j v hj => hw.f.cell (g2 j v hj)) hag
        · cases h
      · rename_i hag
        split at h
        · rename_i v hv
          cases h
          exact run_load_one ht (hw.f.cell hv) (by simpa using hag)
        · cases h
    · cases h
end
end Go.Eng
