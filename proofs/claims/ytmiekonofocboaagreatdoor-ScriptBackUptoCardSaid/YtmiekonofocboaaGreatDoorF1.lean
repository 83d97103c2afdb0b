/- The evaluator, part 1: a machine over names of blocks, for calls whose arguments are known: its values, its memory, its quiet operations. -/
import Derived.Test.YtmiekonofocboaaGreatDoorEC
set_option linter.unusedVariables false
set_option linter.unusedSectionVars false
set_option linter.unusedSimpArgs false
namespace Go.AM
open Go Go.RowKit Go.Eng

/-! ### Tables over numbers -/
inductive Tr (α : Type) where
  | lf
  | nd (l : Tr α) (v : Option α) (r : Tr α)
def find {α : Type} : Tr α → Nat → Option α
  | .lf, _ => none
  | .nd l v r, k => match Nat.beq k 0 with
    | true => v
    | false => match Nat.beq (k % 2) 1 with
      | true => find l (k / 2)
      | false => find r (k / 2 - 1)
def put {α : Type} : Nat → Tr α → Nat → Option α → Option (Tr α)
  | 0, _, _, _ => none
  | d + 1, t, k, x => match t with
    | .lf => (match Nat.beq k 0 with
      | true => some (.nd .lf x .lf)
      | false => match Nat.beq (k % 2) 1 with
        | true => (match put d .lf (k / 2) x with | some l' => some (.nd l' none .lf) | none => none)
        | false => (match put d .lf (k / 2 - 1) x with | some r' => some (.nd .lf none r') | none => none))
    | .nd l v r => (match Nat.beq k 0 with
      | true => some (.nd l x r)
      | false => match Nat.beq (k % 2) 1 with
        | true => (match put d l (k / 2) x with | some l' => some (.nd l' v r) | none => none)
        | false => (match put d r (k / 2 - 1) x with | some r' => some (.nd l v r') | none => none))
theorem beqT {a b : Nat} : Nat.beq a b = true ↔ a = b := by simp
theorem beqF {a b : Nat} : Nat.beq a b = false ↔ a ≠ b := by
  rw [← Bool.not_eq_true, beqT]
theorem bltT {a b : Nat} : Nat.blt a b = true ↔ a < b := by simp [Nat.blt, Nat.lt_iff_add_one_le]
theorem find_lf {α : Type} (k : Nat) : find (.lf : Tr α) k = none := by unfold find; rfl
theorem find_nd {α : Type} (l r : Tr α) (v : Option α) (k : Nat) : find (.nd l v r) k = if k = 0 then v else if k % 2 = 1 then find l (k / 2) else find r (k / 2 - 1) := by
  rw [find]
  split
  · rename_i h; rw [if_pos (beqT.1 h)]
  · rename_i h
    rw [if_neg (beqF.1 h)]
    split
    · rename_i h2; rw [if_pos (beqT.1 h2)]
    · rename_i h2; rw [if_neg (beqF.1 h2)]
theorem put_find {α : Type} : ∀ (d : Nat) (t t' : Tr α) (k : Nat) (x : Option α), put d t k x = some t' → ∀ j, find t' j = if j = k then x else find t j := by
  intro d
  induction d with
  | zero => intro t t' k x h; cases h
  | succ d ih =>
    have step : ∀ (l r : Tr α) (v : Option α) (t' : Tr α) (k : Nat) (x : Option α), (match Nat.beq k 0 with
      | true => some (Tr.nd l x r)
      | false => match Nat.beq (k % 2) 1 with
        | true => (match put d l (k / 2) x with | some l' => some (.nd l' v r) | none => none)
        | false => (match put d r (k / 2 - 1) x with | some r' => some (.nd l v r') | none => none)) = some t' → ∀ j, find t' j = if j = k then x else find (.nd l v r) j := by
      intro l r v t' k x h j
      split at h
      · rename_i hk
        have hk := beqT.1 hk
        cases h; subst hk
        rw [find_nd, find_nd]
        by_cases hj : j = 0
        · rw [if_pos hj, if_pos hj]
        · rw [if_neg hj, if_neg hj, if_neg hj]
      · rename_i hk
        have hk := beqF.1 hk
        split at h <;> rename_i hm
        · have hm := beqT.1 hm
          split at h
          · rename_i l' hl
            cases h
            rw [find_nd, find_nd, ih _ _ _ _ hl]
            by_cases e : j = k
            · subst e; simp [hk, hm]
            · rw [if_neg e]
              by_cases h0 : j = 0
              · simp [h0]
              · simp only [if_neg h0]
                by_cases h1 : j % 2 = 1
                · simp only [if_pos h1]; rw [if_neg (by omega)]
                · simp only [if_neg h1]
          · cases h
        · have hm := beqF.1 hm
          split at h
          · rename_i l' hl
            cases h
            rw [find_nd, find_nd, ih _ _ _ _ hl]
            by_cases e : j = k
            · subst e; simp [hk, hm]
            · rw [if_neg e]
              by_cases h0 : j = 0
              · simp [h0]
              · simp only [if_neg h0]
                by_cases h1 : j % 2 = 1
                · simp only [if_pos h1]
                · simp only [if_neg h1]; rw [if_neg (by omega)]
          · cases h
    intro t t' k x h j
    cases t with
    | lf =>
      have := step .lf .lf none t' k x h j
      rw [this, find_nd, find_lf, find_lf, find_lf]
      simp
    | nd l v r => exact step l r v t' k x h j

/-! ### Values -/
inductive X where
  | b (x : Bool)
  | i (k : IntKind) (n : Int)
  | s (l : List Nat)
  | p0
  | p (id off : Nat)
  | l0
  | l (id off len cap : Nat)
  | u (id off len k : Nat)
  | ue (id off off2 k : Nat)
  | m0
  | m (id : Nat)
  | f (fn : Fn) (first cap : X)
  | fy (id : Nat)
  | f0
  | ifc (t : TypeId) (v : X)
  | if0
  | agg (l : X)
  | tup (l : X)
  | v (k : Nat)
  | nl
  | cs (a b : X)
/-- Where a name's block lies: its number, where what is known of it begins, how many elements there is room for, an element's cells. -/
structure EE where
  b : Nat
  o : Nat
  c : Nat
  sz : Nat
  lc : Option (FuncId × Array Tmp × Code × Code)
  val : Value
abbrev Env := Nat → Option EE
def Env.le (e e' : Env) : Prop := ∀ id z, e id = some z → e' id = some z
def str (l : List Nat) : ByteArray := ⟨(l.map UInt8.ofNat).toArray⟩
mutual
def den (e : Env) : X → Option Value
  | .b x => some (.bool x)
  | .i k n => some (.int k n)
  | .s l => if l.all (fun n => Nat.blt n 256) then some (.string (str l)) else none
  | .p0 => some (.pointer none)
  | .p id off => match e id with
    | some z => some (.pointer (some ⟨z.b, z.o + off, none⟩))
    | none => none
  | .l0 => some (.slice none 0 0)
  | .l id off len cap => match e id with
    | some z => if len ≤ cap then some (.slice (some ⟨z.b, z.o + off, none⟩) len cap) else none
    | none => none
  | .u id off len k => match e id with
    | some z => if len + k ≤ z.c then some (.slice (some ⟨z.b, z.o + off, none⟩) len (z.c - k)) else none
    | none => none
  | .ue id off off2 k => match e id with
    | some z => if k ≤ z.c then some (.slice (some ⟨z.b, z.o + (if z.c = k then off else off2), none⟩) 0 (z.c - k)) else none
    | none => none
  | .m0 => some (.map none)
  | .m id => match e id with
    | some z => some (.map (some z.b))
    | none => none
  | .f fn a c => match denL e a, denL e c with
    | some la, some lc => some (.func fn la.toArray lc.toArray)
    | _, _ => none
  | .fy id => match e id with
    | some z => some (.func (.yield z.b) #[] #[])
    | none => none
  | .f0 => some .nilFunc
  | .ifc t v => match den e v with
    | some v => some (.iface t v)
    | none => none
  | .if0 => some .nilIface
  | .agg l => match denL e l with
    | some l => some (.agg l.toArray)
    | none => none
  | .tup l => match denL e l with
    | some l => some (.tuple l.toArray)
    | none => none
  | .v k => match e k with
    | some z => if z.val.oneCell' = true then some z.val else none
    | none => none
  | .nl => none
  | .cs _ _ => none
def denL (e : Env) : X → Option (List Value)
  | .nl => some []
  | .cs a b => match den e a, denL e b with
    | some v, some l => some (v :: l)
    | _, _ => none
  | _ => none
end
theorem den_mono {e e' : Env} (h : e.le e') : ∀ (x : X), (∀ v, den e x = some v → den e' x = some v) ∧ (∀ l, denL e x = some l → denL e' x = some l) := by
  intro x
  induction x with
  | cs a b iha ihb =>
    refine ⟨fun v hv => by simp [den] at hv, fun l hl => ?_⟩
    simp only [denL] at hl ⊢
    split at hl
    · rename_i h1 h2; rw [iha.1 _ h1, ihb.2 _ h2]; exact hl
    · cases hl
  | f fn a c iha ihc =>
    refine ⟨fun v hv => ?_, fun l hl => by simp [denL] at hl⟩
    simp only [den] at hv ⊢
    split at hv
    · rename_i h1 h2; rw [iha.2 _ h1, ihc.2 _ h2]; exact hv
    · cases hv
  | ifc t v ih =>
    refine ⟨fun v hv => ?_, fun l hl => by simp [denL] at hl⟩
    simp only [den] at hv ⊢
    split at hv
    · rename_i h1; rw [ih.1 _ h1]; exact hv
    · cases hv
  | agg l ih =>
    refine ⟨fun v hv => ?_, fun l hl => by simp [denL] at hl⟩
    simp only [den] at hv ⊢
    split at hv
    · rename_i h1; rw [ih.2 _ h1]; exact hv
    · cases hv
  | tup l ih =>
    refine ⟨fun v hv => ?_, fun l hl => by simp [denL] at hl⟩
    simp only [den] at hv ⊢
    split at hv
    · rename_i h1; rw [ih.2 _ h1]; exact hv
    · cases hv
  | nl => exact ⟨fun v hv => by simp [den] at hv, fun l hl => by simpa [denL] using hl⟩
  | p id off | l id off n c | u id off n k | ue id o1 o2 k | m id | fy id | v id =>
    refine ⟨fun v hv => ?_, fun l hl => by simp [denL] at hl⟩
    simp only [den] at hv ⊢
    split at hv
    · rename_i h1; rw [h _ _ h1]; exact hv
    · cases hv
  | _ => exact ⟨fun v hv => by simpa only [den] using hv, fun l hl => by simp [denL] at hl⟩
theorem denM {e e' : Env} (h : e.le e') {x : X} {v : Value} (hv : den e x = some v) : den e' x = some v := (den_mono h x).1 v hv
theorem denLM {e e' : Env} (h : e.le e') {x : X} {l : List Value} (hv : denL e x = some l) : denL e' x = some l := (den_mono h x).2 l hv

/-- A plain constant. -/
def xof1 : Value → Option X
  | .bool b => some (.b b)
  | .int k n => some (.i k n)
  | .string s => some (.s (s.data.toList.map UInt8.toNat))
  | .pointer none => some .p0
  | .slice none 0 0 => some .l0
  | .map none => some .m0
  | .nilFunc => some .f0
  | .nilIface => some .if0
  | _ => none
def xofL : List Value → Option X
  | [] => some .nl
  | v :: l => match xof1 v, xofL l with
    | some x, some y => some (.cs x y)
    | _, _ => none
def xof : Value → Option X
  | .agg cs => match xofL cs.toList with
    | some l => some (.agg l)
    | none => none
  | .iface t v => match xof1 v with
    | some x => some (.ifc t x)
    | none => none
  | v => xof1 v
theorem str_of (s : ByteArray) : str (s.data.toList.map UInt8.toNat) = s := by
  unfold str
  cases s with
  | mk d =>
    congr 1
    apply Array.ext'
    simp only [List.map_map, List.toList_toArray]
    conv => rhs; rw [← List.map_id d.toList]
    refine List.map_congr_left fun b _ => ?_
    simp
theorem xof1_den {v : Value} {x : X} (h : xof1 v = some x) (e : Env) : den e x = some v := by
  unfold xof1 at h
  split at h <;> first | (cases h; rfl) | (cases h; done) | skip
  cases h
  simp only [den]
  rw [if_pos, str_of]
  rw [List.all_eq_true]
  intro n hn
  obtain ⟨b, _, rfl⟩ := List.mem_map.1 hn
  have := b.toNat_lt
  exact bltT.2 this
theorem xofL_den : ∀ {l : List Value} {x : X}, xofL l = some x → ∀ e : Env, denL e x = some l
  | [], x, h, e => by simp only [xofL, Option.some.injEq] at h; subst h; rfl
  | v :: l, x, h, e => by
    simp only [xofL] at h
    split at h
    · rename_i h1 h2
      cases h
      simp only [denL, xof1_den h1 e, xofL_den h2 e]
    · cases h
theorem xof_den {v : Value} {x : X} (h : xof v = some x) (e : Env) : den e x = some v := by
  unfold xof at h
  split at h
  · split at h
    · rename_i h1; cases h; simp only [den, xofL_den h1 e, Array.toArray_toList]
    · cases h
  · split at h
    · rename_i h1; cases h; simp only [den, xof1_den h1 e]
    · cases h
  · exact xof1_den h e

/-! Rows of values. -/
def xnth : X → Nat → Option X
  | .cs a _, 0 => some a
  | .cs _ b, k + 1 => xnth b k
  | _, _ => none
def xdrop : X → Nat → X
  | x, 0 => x
  | .cs _ b, k + 1 => xdrop b k
  | _, _ + 1 => .nl
def xtake : X → Nat → X
  | _, 0 => .nl
  | .cs a b, k + 1 => .cs a (xtake b k)
  | _, _ + 1 => .nl
def xlen : X → Nat
  | .cs _ b => xlen b + 1
  | _ => 0
theorem xnth_den {e : Env} : ∀ {x : X} {l : List Value} {k : Nat} {y : X}, denL e x = some l → xnth x k = some y → ∃ v, den e y = some v ∧ l[k]? = some v
  | .cs a b, l, 0, y, h, hy => by
    simp only [denL] at h
    split at h
    · rename_i h1 h2; cases h; simp only [xnth, Option.some.injEq] at hy; subst hy; exact ⟨_, h1, rfl⟩
    · cases h
  | .cs a b, l, k + 1, y, h, hy => by
    simp only [denL] at h
    split at h
    · rename_i h1 h2; cases h; obtain ⟨v, g1, g2⟩ := xnth_den (x := b) h2 hy; exact ⟨v, g1, by simpa using g2⟩
    · cases h
  | .nl, _, _, _, _, hy => by simp [xnth] at hy
  | .b _, _, _, _, _, hy => by simp [xnth] at hy
  | .i _ _, _, _, _, _, hy => by simp [xnth] at hy
  | .s _, _, _, _, _, hy => by simp [xnth] at hy
  | .p0, _, _, _, _, hy => by simp [xnth] at hy
  | .p _ _, _, _, _, _, hy => by simp [xnth] at hy
  | .l0, _, _, _, _, hy => by simp [xnth] at hy
  | .l _ _ _ _, _, _, _, _, hy => by simp [xnth] at hy
  | .u _ _ _ _, _, _, _, _, hy => by simp [xnth] at hy
  | .ue _ _ _ _, _, _, _, _, hy => by simp [xnth] at hy
  | .m0, _, _, _, _, hy => by simp [xnth] at hy
  | .m _, _, _, _, _, hy => by simp [xnth] at hy
  | .f _ _ _, _, _, _, _, hy => by simp [xnth] at hy
  | .fy _, _, _, _, _, hy => by simp [xnth] at hy
  | .f0, _, _, _, _, hy => by simp [xnth] at hy
  | .ifc _ _, _, _, _, _, hy => by simp [xnth] at hy
  | .if0, _, _, _, _, hy => by simp [xnth] at hy
  | .agg _, _, _, _, _, hy => by simp [xnth] at hy
  | .tup _, _, _, _, _, hy => by simp [xnth] at hy
  | .v _, _, _, _, _, hy => by simp [xnth] at hy
theorem denL_cases {e : Env} {x : X} {l : List Value} (h : denL e x = some l) : (x = .nl ∧ l = []) ∨ ∃ a b v m, x = .cs a b ∧ l = v :: m ∧ den e a = some v ∧ denL e b = some m := by
  cases x <;> simp only [denL] at h <;> first
    | (cases h; done)
    | (cases h; exact .inl ⟨rfl, rfl⟩)
    | (split at h
       · rename_i h1 h2; cases h; exact .inr ⟨_, _, _, _, rfl, rfl, h1, h2⟩
       · cases h)
theorem xdrop_den {e : Env} : ∀ {k : Nat} {x : X} {l : List Value}, denL e x = some l → denL e (xdrop x k) = some (l.drop k)
  | 0, x, l, h => by cases x <;> simpa [xdrop] using h
  | k + 1, x, l, h => by
    rcases denL_cases h with ⟨rfl, rfl⟩ | ⟨a, b, v, m, rfl, rfl, h1, h2⟩
    · rfl
    · simp only [xdrop, List.drop_succ_cons]; exact xdrop_den h2
theorem xtake_den {e : Env} : ∀ {k : Nat} {x : X} {l : List Value}, denL e x = some l → denL e (xtake x k) = some (l.take k)
  | 0, x, l, h => by cases x <;> rfl
  | k + 1, x, l, h => by
    rcases denL_cases h with ⟨rfl, rfl⟩ | ⟨a, b, v, m, rfl, rfl, h1, h2⟩
    · rfl
    · simp only [xtake, List.take_succ_cons, denL, h1, xtake_den h2]
theorem xlen_den {e : Env} : ∀ {x : X} {l : List Value}, denL e x = some l → xlen x = l.length := by
  intro x
  induction x with
  | cs a b _ ih =>
    intro l h
    rcases denL_cases h with ⟨h, _⟩ | ⟨a', b', v, m, h0, rfl, h1, h2⟩
    · cases h
    · cases h0; simp [xlen, ih h2]
  | nl => intro l h; simp only [denL, Option.some.injEq] at h; subst h; rfl
  | _ => intro l h; simp [denL] at h
end Go.AM
