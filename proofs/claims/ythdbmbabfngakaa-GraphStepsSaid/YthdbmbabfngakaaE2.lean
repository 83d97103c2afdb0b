/- The engine, part 2: operations that turn nothing: what value each comes to, reckoned from what a state knows, and the proof of it. -/
import Derived.Test.YthdbmbabfngakaaE1
import Derived.Laws.StructEq
import Derived.Laws.Strings
import Derived.DeepKeys
namespace Go.Eng
open Go Go.RowKit

structure TD where
  d : TypeDesc
  size : Nat
  bytes : Nat
  zero : Value
/-- What the program's table says of a type. -/
def ty (P : Program) (t : TypeId) : Option TD :=
  match P.underlying t, P.info? t with
  | some d, some i => match i.zero with
    | some z => some ⟨d, i.size, i.bytes, z⟩
    | none => none
  | _, _ => none
theorem ty_some {P : Program} {t : TypeId} {D : TD} (h : ty P t = some D) : P.underlying t = some D.d ∧ ∃ i, P.info? t = some i ∧ i.size = D.size ∧ i.bytes = D.bytes ∧ i.zero = some D.zero := by
  unfold ty at h
  split at h
  · split at h
    · cases h; exact ⟨by assumption, _, by assumption, rfl, rfl, by assumption⟩
    · cases h
  · cases h
theorem ty_mk {P : Program} {t : TypeId} {d : TypeDesc} {s b : Nat} {z : Value} (h : P.underlying t = some d) (hi : (P.info? t).map (fun i => (i.zero, i.size, i.bytes)) = some (some z, s, b)) : ty P t = some ⟨d, s, b, z⟩ := by
  unfold ty
  rw [h]
  cases e : P.info? t with
  | none => rw [e] at hi; cases hi
  | some i =>
    rw [e] at hi
    simp only [Option.map_some, Option.some.injEq, Prod.mk.injEq] at hi
    obtain ⟨h1, h2, h3⟩ := hi
    simp [h1, h2, h3]
section
variable {P : Program} {t : TypeId} {D : TD} {w : World}
theorem ty_underlying (h : ty P t = some D) : (underlying t).run P w = .ok D.d w := run_underlying (ty_some h).1 w
theorem ty_info (h : ty P t = some D) : ∃ i, (typeInfo t).run P w = .ok i w ∧ i.size = D.size ∧ i.bytes = D.bytes ∧ i.zero = some D.zero := by
  obtain ⟨_, i, hi, h1, h2, h3⟩ := ty_some h
  exact ⟨i, by simp [typeInfo, hi], h1, h2, h3⟩
theorem ty_size (h : ty P t = some D) : (sizeOf t).run P w = .ok D.size w := by
  obtain ⟨i, hi, h1, _⟩ := ty_info (w := w) h
  simp [sizeOf, hi, h1]
theorem ty_zero (h : ty P t = some D) : (zeroValue t).run P w = .ok D.zero w := by
  obtain ⟨i, hi, _, _, h3⟩ := ty_info (w := w) h
  simp [zeroValue, hi, h3]
def isAggD : TypeDesc → Bool
  | .struct _ => true
  | .array _ _ => true
  | _ => false
theorem ty_agg (h : ty P t = some D) : (isAgg t).run P w = .ok (isAggD D.d) w := by
  simp only [isAgg, Sem.run_bind, ty_underlying h, Result.andThen_ok]
  cases D.d <;> rfl
end

/-! ### Operators -/
def intv (op : BinOp) (k : IntKind) (a : Int) (k' : IntKind) (b : Int) : Option Value :=
  match op with
  | .shl => if b < 0 then none else some (.int k (k.wrap (a * 2 ^ (min b.toNat k.bits))))
  | .shr => if b < 0 then none else some (.int k (a.fdiv (2 ^ (min b.toNat k.bits))))
  | _ => if k = k' then
    match op with
    | .add => some (.int k (k.wrap (a + b)))
    | .sub => some (.int k (k.wrap (a - b)))
    | .mul => some (.int k (k.wrap (a * b)))
    | .quo => if b = 0 then none else some (.int k (k.wrap (a.tdiv b)))
    | .rem => if b = 0 then none else some (.int k (a.tmod b))
    | .and => some (.int k (k.wrap (BitVec.ofInt k.bits a &&& BitVec.ofInt k.bits b).toNat))
    | .or => some (.int k (k.wrap (BitVec.ofInt k.bits a ||| BitVec.ofInt k.bits b).toNat))
    | .eql => some (.bool (decide (a = b)))
    | .neq => some (.bool (!decide (a = b)))
    | .lss => some (.bool (decide (a < b)))
    | .leq => some (.bool (decide (a ≤ b)))
    | .gtr => some (.bool (decide (a > b)))
    | .geq => some (.bool (decide (a ≥ b)))
    | _ => none
    else none
def strv (op : BinOp) (a b : ByteArray) : Option Value :=
  match op with
  | .eql => some (.bool (decide (a = b)))
  | .neq => some (.bool (!decide (a = b)))
  | .lss => some (.bool (Op.bytesLess a.toList b.toList))
  | .gtr => some (.bool (!(Op.bytesLess a.toList b.toList || decide (a = b))))
  | .add => if a.size + b.size ≤ 9223372036854775807 then some (.string (a ++ b)) else none
  | _ => none
def eqb (op : BinOp) (b : Bool) : Option Value :=
  match op with
  | .eql => some (.bool b)
  | .neq => some (.bool (!b))
  | _ => none
def litEq : Lit → Lit → Bool
  | .bool a, .bool b => decide (a = b)
  | .int k n, .int k' n' => decide (k = k') && decide (n = n')
  | .float k n, .float k' n' => decide (k = k') && decide (n = n')
  | .string a, .string b => decide (a = b)
  | .nil, .nil => true
  | _, _ => false
theorem litEq_iff (a b : Lit) : litEq a b = true ↔ a = b := by cases a <;> cases b <;> simp [litEq]
instance : DecidableEq Lit := fun a b => decidable_of_iff (litEq a b = true) (litEq_iff a b)
/-- == on structs and arrays of plain parts. -/
def aggEq (P : Program) (t : TypeId) (a b : Array Value) : Option Bool :=
  if P.keyTypeAt 16 t = true ∧ P.eqGuardType P.depth t = false ∧ (Value.agg a).formed P t = true ∧ (Value.agg b).formed P t = true then
    (match P.keyLits 16 t a.toList, P.keyLits 16 t b.toList with
      | some la, some lb => some (decide (la = lb))
      | _, _ => none)
  else none
theorem aggEq_true {P : Program} {t : TypeId} {a b : Array Value} {l : List Lit} (h1 : P.keyTypeAt 16 t = true) (h2 : P.eqGuardType P.depth t = false) (h3 : (Value.agg a).formed P t = true) (h4 : (Value.agg b).formed P t = true) (h5 : P.keyLits 16 t a.toList = some l) (h6 : P.keyLits 16 t b.toList = some l) : aggEq P t a b = some true := by
  unfold aggEq; rw [if_pos ⟨h1, h2, h3, h4⟩, h5, h6]; simp
theorem aggEq_false {P : Program} {t : TypeId} {a b : Array Value} {l m : List Lit} (h1 : P.keyTypeAt 16 t = true) (h2 : P.eqGuardType P.depth t = false) (h3 : (Value.agg a).formed P t = true) (h4 : (Value.agg b).formed P t = true) (h5 : P.keyLits 16 t a.toList = some l) (h6 : P.keyLits 16 t b.toList = some m) (hn : ¬ l = m) : aggEq P t a b = some false := by
  unfold aggEq; rw [if_pos ⟨h1, h2, h3, h4⟩, h5, h6]; simp [hn]
def binv (P : Program) (op : BinOp) (t : TypeId) (x y : Value) : Option Value :=
  match x, y with
  | .int k a, .int k' b => intv op k a k' b
  | .string a, .string b => strv op a b
  | .bool a, .bool b => match ty P t with
    | some ⟨.bool, _, _, _⟩ => eqb op (decide (a = b))
    | _ => none
  | .pointer p, .pointer none => match ty P t with
    | some ⟨.pointer _, _, _, _⟩ => eqb op p.isNone
    | _ => none
  | .slice p _ _, .slice none _ _ => match ty P t with
    | some ⟨.slice _, _, _, _⟩ => eqb op p.isNone
    | _ => none
  | .map p, .map none => match ty P t with
    | some ⟨.map _ _, _, _, _⟩ => eqb op p.isNone
    | _ => none
  | .agg a, .agg b => match aggEq P t a b with
    | some r => eqb op r
    | none => none
  | _, _ => none
theorem beq_dec {α : Type} [DecidableEq α] [BEq α] [LawfulBEq α] (a b : α) : (a == b) = decide (a = b) := by by_cases h : a = b <;> simp [h]
theorem beq_bytes (a b : ByteArray) : (a.toList == b.toList) = decide (a = b) := by
  rw [beq_dec]
  congr 1
  rw [ByteArray.toList_eq, ByteArray.toList_eq]
  refine propext ⟨fun h => ?_, fun h => by rw [h]⟩
  cases a with | mk a => cases b with | mk b => exact congrArg ByteArray.mk (Array.toList_inj.1 h)
theorem run_eqGuard {P : Program} {w : World} {op : BinOp} {t : TypeId} {x y : Operand} {a b : Value} (h : ¬ (a matches .nilIface)) (h' : ¬ (a matches .agg _)) : (eqGuard op t x y a b).run P w = .ok () w := by
  unfold eqGuard
  cases op <;> first | rfl | (cases a <;> first | rfl | exact absurd rfl h | exact absurd rfl h')
theorem run_eql {P : Program} {w : World} {t : TypeId} {a b : Value} {r : Bool} (h : (Op.equal t a b).run P w = .ok r w)
    (ha : ¬ (a matches .int _ _)) (ha2 : ¬ (a matches .string _)) (ha3 : ¬ (a matches .float _ _)) (ha4 : ¬ (a matches .complex _ _ _)) (op : BinOp) {v : Value} (hv : eqb op r = some v) : (binOp op t a b).run P w = .ok v w := by
  cases op <;> simp only [eqb] at hv <;> (try cases hv)
  · cases a <;> first | (simp [binOp, h]; done) | exact absurd rfl ha | exact absurd rfl ha2 | exact absurd rfl ha3 | exact absurd rfl ha4
  · cases a <;> first | (simp [binOp, h]; done) | exact absurd rfl ha | exact absurd rfl ha2 | exact absurd rfl ha3 | exact absurd rfl ha4
section
variable {P : Program} {w : World} {t : TypeId} {d : Nat}
theorem eq_bool (h : P.underlying t = some .bool) (a b : Bool) : (Op.equalIn (d + 1) t (.bool a) (.bool b)).run P w = .ok (decide (a = b)) w := by
  unfold Op.equalIn; simp only [Sem.run_bind, run_underlying h, Result.andThen_ok]; rw [← beq_dec]; rfl
theorem eq_ptr {e : TypeId} (h : P.underlying t = some (.pointer e)) (p : Option Addr) : (Op.equalIn (d + 1) t (.pointer p) (.pointer none)).run P w = .ok p.isNone w := by
  unfold Op.equalIn; simp only [Sem.run_bind, run_underlying h, Result.andThen_ok]; cases p <;> rfl
theorem eq_slice {e : TypeId} (h : P.underlying t = some (.slice e)) (p : Option Addr) (n c n' c' : Nat) : (Op.equalIn (d + 1) t (.slice p n c) (.slice none n' c')).run P w = .ok p.isNone w := by
  unfold Op.equalIn; simp only [Sem.run_bind, run_underlying h, Result.andThen_ok]; cases p <;> rfl
theorem eq_map {k e : TypeId} (h : P.underlying t = some (.map k e)) (p : Option Nat) : (Op.equalIn (d + 1) t (.map p) (.map none)).run P w = .ok p.isNone w := by
  unfold Op.equalIn; simp only [Sem.run_bind, run_underlying h, Result.andThen_ok]; cases p <;> rfl
end
theorem binv_run {P : Program} {w : World} {op : BinOp} {t : TypeId} {x y v : Value} (h : binv P op t x y = some v) :
    (∀ ox oy : Operand, (eqGuard op t ox oy x y).run P w = .ok () w) ∧ (binOp op t x y).run P w = .ok v w := by
  unfold binv at h
  split at h
  · refine ⟨fun _ _ => run_eqGuard (by simp) (by simp), ?_⟩
    rename_i k a k' b
    unfold intv at h
    split at h
    · split at h
      · cases h
      · cases h; simp [binOp, Op.shift, *]
    · split at h
      · cases h
      · cases h; simp [binOp, Op.shift, *]
    · split at h
      · subst_vars
        cases op <;> simp only at h <;> first
          | (cases h; simp [binOp, Op.intArith, Op.intCmp, Op.intBits, beq_dec, bne]; done)
          | (split at h <;> first | (cases h; done) | (cases h; simp [binOp, Op.intDiv, *]; done))
          | (exfalso; simp_all; done)
          | cases h
      · cases h
  · refine ⟨fun _ _ => run_eqGuard (by simp) (by simp), ?_⟩
    unfold strv at h
    cases op <;> simp only at h <;> first
      | (cases h; simp [binOp, Op.stringOp, beq_bytes]; done)
      | (split at h
         · cases h; simp [binOp, Op.stringOp, IntKind.max, IntKind.bits, IntKind.signed]; omega
         · cases h)
      | cases h
  · refine ⟨fun _ _ => run_eqGuard (by simp) (by simp), ?_⟩
    split at h
    · rename_i ht
      exact run_eql (eq_bool (d := 9999) (ty_some ht).1 _ _) (by simp) (by simp) (by simp) (by simp) op h
    · cases h
  · refine ⟨fun _ _ => run_eqGuard (by simp) (by simp), ?_⟩
    split at h
    · rename_i ht
      exact run_eql (eq_ptr (d := 9999) (ty_some ht).1 _) (by simp) (by simp) (by simp) (by simp) op h
    · cases h
  · refine ⟨fun _ _ => run_eqGuard (by simp) (by simp), ?_⟩
    split at h
    · rename_i ht
      exact run_eql (eq_slice (d := 9999) (ty_some ht).1 _ _ _ _ _) (by simp) (by simp) (by simp) (by simp) op h
    · cases h
  · refine ⟨fun _ _ => run_eqGuard (by simp) (by simp), ?_⟩
    split at h
    · rename_i ht
      exact run_eql (eq_map (d := 9999) (ty_some ht).1 _) (by simp) (by simp) (by simp) (by simp) op h
    · cases h
  · split at h
    · rename_i r hr
      unfold aggEq at hr
      split at hr
      · rename_i hc
        obtain ⟨k1, k2, k3, k4⟩ := hc
        split at hr
        · rename_i la lb ha hb
          cases hr
          refine ⟨fun ox oy => ?_, ?_⟩
          · unfold eqGuard
            cases op <;> first | rfl | simp [k2]
          · obtain ⟨r, h1, h2⟩ := run_equalIn_deep (P := P) 9984 16 t k1 w 16 16 _ _ la lb k3 k4 ha hb
            have hr : r = decide (la = lb) := by
              cases r with
              | true => simp [h2.1 rfl]
              | false => simp; exact fun e => by have := h2.2 e; cases this
            subst hr
            exact run_eql h1 (by simp) (by simp) (by simp) (by simp) op h
        · cases hr
      · cases hr
    · cases h
  · cases h
end Go.Eng
