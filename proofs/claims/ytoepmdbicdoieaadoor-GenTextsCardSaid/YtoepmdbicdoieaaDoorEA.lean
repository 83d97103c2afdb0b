/- My texts E1 E2 E3 E4, in one. -/
import Derived.Below
import Derived.WalkKit
import Derived.Deep.Draws
import Derived.Laws.StructEq
import Derived.Laws.Strings
import Derived.DeepKeys
import Derived.Laws.BytesString
/- The engine, part 1: partial heaps, frames that are known in part, states of a walk, and what it means that what is left of a walk goes well. -/
namespace Go.Eng
open Go Go.RowKit

/-! ### Partial heaps -/
abbrev PH := Nat → Option Obj
def PH.le (F G : PH) : Prop := ∀ b o, F b = some o → G b = some o
def PH.In (F : PH) (w : World) : Prop := ∀ b o, F b = some o → w.heap[b]? = some o
def PH.Disj (F G : PH) : Prop := ∀ b, F b = none ∨ G b = none
def PH.emp : PH := fun _ => none
def PH.one (b : Nat) (o : Obj) : PH := fun k => if k = b then some o else none
def PH.put (F : PH) (b : Nat) (o : Obj) : PH := fun k => if k = b then some o else F k

theorem PH.le_refl (F : PH) : F.le F := fun _ _ h => h
theorem PH.le_trans {F G H : PH} (h : F.le G) (k : G.le H) : F.le H := fun b o e => k b o (h b o e)
theorem PH.In.lt {F : PH} {w : World} (h : F.In w) {b : Nat} {o : Obj} (e : F b = some o) : b < w.heap.size := by
  have := h b o e
  rcases Nat.lt_or_ge b w.heap.size with hl | hl
  · exact hl
  · rw [Array.getElem?_eq_none hl] at this; cases this
theorem PH.In.fresh {F : PH} {w : World} (h : F.In w) : F w.heap.size = none := by
  cases e : F w.heap.size with
  | none => rfl
  | some o => exact absurd (h.lt e) (Nat.lt_irrefl _)
theorem PH.le_put {F : PH} {b : Nat} {o : Obj} (h : F b = none) : F.le (F.put b o) := by
  intro k u e
  unfold PH.put
  split
  · subst_vars; rw [h] at e; cases e
  · exact e
theorem PH.put_self (F : PH) (b : Nat) (o : Obj) : F.put b o b = some o := by simp [PH.put]

/-- The cell of a partial heap. -/
def PH.cell (F : PH) (a : Addr) : Option Value :=
  match F a.block with
  | some (.cells c _ _) => if a.spot.isSome then none else c[a.off]?
  | _ => none
theorem PH.In.cell {F : PH} {w : World} (h : F.In w) {a : Addr} {v : Value} (e : F.cell a = some v) : w.cell? a = some v := by
  unfold PH.cell at e
  unfold World.cell?
  cases hb : F a.block with
  | none => rw [hb] at e; cases e
  | some o =>
    rw [hb] at e
    rw [h _ _ hb]
    cases o <;> first | exact e | cases e
theorem PH.le.cell {F G : PH} (h : F.le G) {a : Addr} {v : Value} (e : F.cell a = some v) : G.cell a = some v := by
  unfold PH.cell at e ⊢
  cases hb : F a.block with
  | none => rw [hb] at e; cases e
  | some o => rw [hb] at e; rw [h _ _ hb]; exact e

/-- The cells from a place on, so many. -/
def PH.cells (F : PH) (a : Addr) : Nat → Option (List Value)
  | 0 => some []
  | n + 1 => match PH.cells F a n, F.cell (a.add n) with
    | some l, some v => some (l ++ [v])
    | _, _ => none
theorem PH.le.cells {F G : PH} (h : F.le G) {a : Addr} : ∀ {n : Nat} {l : List Value}, F.cells a n = some l → G.cells a n = some l
  | 0, _, e => e
  | n + 1, l, e => by
    simp only [PH.cells] at e ⊢
    cases h1 : F.cells a n with
    | none => rw [h1] at e; cases e
    | some x =>
      cases h2 : F.cell (a.add n) with
      | none => rw [h1, h2] at e; cases e
      | some y => rw [h1, h2] at e; rw [PH.le.cells h h1, h.cell h2]; exact e

/-! ### Values that a walk knows -/
/-- A value, or the address of a block of the call's own, with the name under which the walk has it. -/
inductive AV where
  | v (x : Value)
  | o (i b off : Nat)
  | s (i b off len cap : Nat)
def AV.val : AV → Value
  | .v x => x
  | .o _ b off => .pointer (some ⟨b, off, none⟩)
  | .s _ b off len cap => .slice (some ⟨b, off, none⟩) len cap

@[simp] theorem AV.val_v (x : Value) : (AV.v x).val = x := rfl
@[simp] theorem AV.val_o (i b off : Nat) : (AV.o i b off).val = .pointer (some ⟨b, off, none⟩) := rfl
@[simp] theorem AV.val_s (i b off n c : Nat) : (AV.s i b off n c).val = .slice (some ⟨b, off, none⟩) n c := rfl

abbrev KL := List (Nat × AV)
def look : KL → Nat → Option AV
  | [], _ => none
  | (d, x) :: L, t => if d = t then some x else look L t
def rmk : KL → Nat → KL
  | [], _ => []
  | (d, x) :: L, t => if d = t then rmk L t else (d, x) :: rmk L t
def setk (L : KL) (d : Option Nat) (x : AV) : KL :=
  match d with
  | none => L
  | some d => (d, x) :: rmk L d

/-- What is known of a frame. -/
def Kn (n : Nat) (L : KL) (a : Act) : Prop := a.defers = [] ∧ a.tmps.size = n ∧ ∀ d x, look L d = some x → d < n ∧ a.tmps.getD d undef = x.val

theorem look_rmk (L : KL) (d t : Nat) : look (rmk L d) t = if d = t then none else look L t := by
  induction L with
  | nil => simp [rmk, look]
  | cons p L ih =>
    obtain ⟨e, x⟩ := p
    simp only [rmk]
    by_cases h : e = d
    · subst h
      simp only [if_true, ih, look]
      split <;> rfl
    · simp only [if_neg h, look]
      by_cases h2 : e = t
      · subst h2; rw [if_pos rfl, if_pos rfl, if_neg (fun h' => h h'.symm)]
      · rw [if_neg h2, if_neg h2, ih]

theorem Kn.put {n : Nat} {L : KL} {a : Act} (h : Kn n L a) {d : Option Nat} {x : AV} {v : Value} (hx : x.val = v) (hd : ∀ t, d = some t → t < n) : Kn n (setk L d x) (a.put d v) := by
  obtain ⟨h0, h1, h2⟩ := h
  cases d with
  | none => exact ⟨h0, h1, h2⟩
  | some d =>
    have hdn := hd d rfl
    refine ⟨h0, by simp [Act.put, h1], ?_⟩
    intro t y hy
    simp only [setk, look, look_rmk] at hy
    by_cases e : d = t
    · subst e
      simp only [if_true, Option.some.injEq] at hy
      subst hy
      refine ⟨hdn, ?_⟩
      simp [Act.put, Array.getD, h1, hdn, hx]
    · simp only [if_neg e] at hy
      obtain ⟨g1, g2⟩ := h2 t y hy
      refine ⟨g1, ?_⟩
      rw [← g2]
      simp [Act.put, Array.getD, h1, g1, e]

def evo (L : KL) : Operand → Option AV
  | .tmp t => look L t
  | .const v => some (.v v)
  | .global g => some (.v (.pointer (some ⟨g, 0, none⟩)))
  | .func f => some (.v (.func (.func f) #[] #[]))
theorem Kn.eval {n : Nat} {L : KL} {a : Act} (h : Kn n L a) {x : Operand} {y : AV} (e : evo L x = some y) : a.eval x = y.val := by
  cases x with
  | tmp t => exact (h.2.2 t y e).2
  | const v => simp only [evo, Option.some.injEq] at e; subst e; rfl
  | global g => simp only [evo, Option.some.injEq] at e; subst e; rfl
  | func f => simp only [evo, Option.some.injEq] at e; subst e; rfl
def evl (L : KL) : List Operand → Option (List Value)
  | [] => some []
  | x :: l => match evo L x, evl L l with
    | some y, some ys => some (y.val :: ys)
    | _, _ => none
theorem Kn.evals {n : Nat} {L : KL} {a : Act} (h : Kn n L a) : ∀ {l : List Operand} {ys : List Value}, evl L l = some ys → l.map a.eval = ys
  | [], ys, e => by simp only [evl, Option.some.injEq] at e; subst e; rfl
  | x :: l, ys, e => by
    simp only [evl] at e
    cases h1 : evo L x with
    | none => rw [h1] at e; cases e
    | some y =>
      cases h2 : evl L l with
      | none => rw [h1, h2] at e; cases e
      | some zs =>
        rw [h1, h2] at e
        simp only [Option.some.injEq] at e
        subst e
        rw [List.map_cons, h.eval h1, Kn.evals h h2]

/-! ### States -/
/-- A block of the call's own: its name, its number, its cells' type, its cells. -/
structure Own where
  i : Nat
  b : Nat
  t : TypeId
  cs : List Value
/-- What a walk knows: slots, own blocks, what never turns again, what is lent to it; 'nx': the next name. -/
structure St where
  L : KL
  M : List Own
  F : PH
  R : List PH
  nx : Nat

/-- Where a call began: the world, what never turns, and which blocks it may turn. -/
structure Base where
  w : World
  F : PH
  X : Nat → Prop
/-- A later world: what was there, but for the blocks of X, is the same. -/
structure Later (X : Nat → Prop) (w w' : World) : Prop where
  os : w'.os = w.os
  tape : w'.tape = w.tape
  output : w'.output = w.output
  size : w.heap.size ≤ w'.heap.size
  block : ∀ k, k < w.heap.size → ¬ X k → w'.heap[k]? = w.heap[k]?
theorem Later.refl (X : Nat → Prop) (w : World) : Later X w w := ⟨rfl, rfl, rfl, Nat.le_refl _, fun _ _ _ => rfl⟩
theorem Later.trans {X : Nat → Prop} {a b c : World} (h : Later X a b) (k : Later X b c) : Later X a c :=
  ⟨k.os.trans h.os, k.tape.trans h.tape, k.output.trans h.output, Nat.le_trans h.size k.size, fun i hi hx => (k.block i (Nat.lt_of_lt_of_le hi h.size) hx).trans (h.block i hi hx)⟩
theorem Later.below {X : Nat → Prop} {w w' : World} (h : Later X w w') (hx : ∀ b, ¬ X b) : Below w.heap.size w w' :=
  ⟨h.os, h.tape, h.output, h.size, fun k hk => h.block k hk (hx k)⟩

structure Sat (B : Base) (S : St) (w : World) : Prop where
  f : S.F.In w
  m : ∀ o ∈ S.M, w.heap[o.b]? = some (.cells o.cs.toArray o.t (0, 0)) ∧ S.F o.b = none ∧ (∀ r ∈ S.R, r o.b = none) ∧ (B.X o.b ∨ B.w.heap.size ≤ o.b)
  mm : S.M.Pairwise (fun x y => x.b ≠ y.b)
  r : ∀ r ∈ S.R, r.In w ∧ S.F.Disj r ∧ ∀ b, r b ≠ none → B.X b ∨ B.w.heap.size ≤ b
  rr : S.R.Pairwise PH.Disj
  late : Later B.X B.w w
  f0 : B.F.le S.F
  fnew : ∀ b, S.F b ≠ none → B.F b ≠ none ∨ B.X b ∨ B.w.heap.size ≤ b

/-! ### What is left of a walk -/
inductive KItem where
  | code (c : Code)
  | ops (all : Array Oper) (l : List Oper)
  | blk (id : Nat)
  | done (G : St → Prop)

/-- The walk of one call: where it began, and what must hold where it ends. -/
structure Cx where
  B : Base
  ret : Act → World → Prop

def mkq (ret nrm : Act → World → Prop) (ex : Nat → Act → World → Prop) : Exit → Act → World → Prop
  | .normal, a, w => nrm a w
  | .ret, a, w => ret a w
  | .exit id, a, w => ex id a w
  | _, _, _ => False
/-- What is left to do, from the top on: how it goes on, and how by an exit. -/
def semx (P : Program) (n : Nat) (C : Cx) : List KItem → (Act → World → Prop) × (Nat → Act → World → Prop)
  | [] => (C.ret, fun _ _ _ => False)
  | .code c :: k => (fun a w => c.wp P (mkq C.ret (semx P n C k).1 (semx P n C k).2) a w, (semx P n C k).2)
  | .ops all l :: k => (fun a w => wpList P all (mkq C.ret (semx P n C k).1 (semx P n C k).2) l a w, (semx P n C k).2)
  | .blk id :: k => ((semx P n C k).1, fun id' a w => if id' = id then (semx P n C k).1 a w else (semx P n C k).2 id' a w)
  | .done G :: k => (fun a w => ∃ S, Kn n S.L a ∧ Sat C.B S w ∧ G S, (semx P n C k).2)
/-- From whatever fits the state, what is left goes well. -/
def VC (P : Program) (n : Nat) (C : Cx) (k : List KItem) (S : St) : Prop := ∀ a w, Kn n S.L a → Sat C.B S w → (semx P n C k).1 a w

section
variable {P : Program} {n : Nat} {C : Cx} {k : List KItem} {S : St}

theorem VC.nil (h : ∀ a w, Kn n S.L a → Sat C.B S w → C.ret a w) : VC P n C [] S := h
theorem VC.skip (h : VC P n C k S) : VC P n C (.code .skip :: k) S := fun a w ha hw => wp_skip (h a w ha hw)
theorem VC.ret (h : ∀ a w, Kn n S.L a → Sat C.B S w → C.ret a w) : VC P n C (.code .ret :: k) S := fun a w ha hw => wp_ret (h a w ha hw)
theorem VC.seq {x y : Code} (h : VC P n C (.code x :: .code y :: k) S) : VC P n C (.code (.seq x y) :: k) S := by
  intro a w ha hw
  refine wp_seq (wp_mono (h a w ha hw) ?_)
  intro e a w q
  cases e <;> exact q
theorem VC.block {id : Nat} {c : Code} (h : VC P n C (.code c :: .blk id :: k) S) : VC P n C (.code (.block id c) :: k) S := by
  intro a w ha hw
  refine wp_block (wp_mono (h a w ha hw) ?_)
  intro e a w q
  cases e with
  | exit id' =>
    show if id' = id then _ else _
    have q' : if id' = id then (semx P n C k).1 a w else (semx P n C k).2 id' a w := q
    split
    · rename_i e; rw [if_pos e] at q'; exact q'
    · rename_i e; rw [if_neg e] at q'; exact q'
  | _ => exact q
theorem VC.blk {id : Nat} (h : VC P n C k S) : VC P n C (.blk id :: k) S := h
def dropTo (id : Nat) : List KItem → Option (List KItem)
  | [] => none
  | .blk id' :: k => if id = id' then some k else dropTo id k
  | .code _ :: k => dropTo id k
  | .ops _ _ :: k => dropTo id k
  | .done _ :: k => dropTo id k
theorem dropTo_ex {id : Nat} : ∀ {k k' : List KItem}, dropTo id k = some k' → ∀ a w, (semx P n C k').1 a w → (semx P n C k).2 id a w
  | [], _, h, _, _, _ => by cases h
  | .blk id' :: k, k', h, a, w, hs => by
    simp only [dropTo] at h
    show if id = id' then _ else _
    split
    · rename_i e; rw [if_pos e] at h; cases h; exact hs
    · rename_i e; rw [if_neg e] at h; exact dropTo_ex h a w hs
  | .code _ :: k, k', h, a, w, hs => dropTo_ex (k := k) h a w hs
  | .ops _ _ :: k, k', h, a, w, hs => dropTo_ex (k := k) h a w hs
  | .done _ :: k, k', h, a, w, hs => dropTo_ex (k := k) h a w hs
theorem VC.exit {id : Nat} {k' : List KItem} (e : dropTo id k = some k') (h : VC P n C k' S) : VC P n C (.code (.exit id) :: k) S :=
  fun a w ha hw => wp_exit (dropTo_ex e a w (h a w ha hw))
theorem VC.done {G : St → Prop} (h : G S) : VC P n C (.done G :: k) S := fun _ _ ha hw => ⟨S, ha, hw, h⟩
theorem VC.opsnil {all : Array Oper} (h : VC P n C k S) : VC P n C (.ops all [] :: k) S := fun a w ha hw => wpList_nil (P := P) (ops := all) (Q := mkq C.ret (semx P n C k).1 (semx P n C k).2) (h a w ha hw)
theorem VC.region {id : Nat} {ops : Array Oper} (h : VC P n C (.ops ops ops.toList :: k) S) : VC P n C (.code (.region id ops false) :: k) S :=
  fun a w ha hw => wp_region_list (h a w ha hw)

/-! A state forgets. -/
def St.le (S S' : St) : Prop := (∀ d x, look S'.L d = some x → look S.L d = some x) ∧ S'.M.Sublist S.M ∧ S'.F = S.F ∧ S'.R.Sublist S.R
theorem Sat.weaken {B : Base} {S S' : St} {w : World} (h : Sat B S w) (hl : S.le S') : Sat B S' w := by
  obtain ⟨_, hm, hf, hr⟩ := hl
  refine ⟨hf ▸ h.f, fun o ho => ?_, h.mm.sublist hm, fun r hr' => hf ▸ h.r r (hr.subset hr'), h.rr.sublist hr, h.late, hf ▸ h.f0, hf ▸ h.fnew⟩
  obtain ⟨h1, h2, h3, h4⟩ := h.m o (hm.subset ho)
  exact ⟨h1, hf ▸ h2, fun r hr' => h3 r (hr.subset hr'), h4⟩
theorem Kn.weaken {n : Nat} {L L' : KL} {a : Act} (h : Kn n L a) (hl : ∀ d x, look L' d = some x → look L d = some x) : Kn n L' a :=
  ⟨h.1, h.2.1, fun d x e => h.2.2 d x (hl d x e)⟩
theorem VC.weaken {S' : St} (hl : S.le S') (h : VC P n C k S') : VC P n C k S := fun a w ha hw => h a w (ha.weaken hl.1) (hw.weaken hl)
theorem St.le_refl (S : St) : S.le S := ⟨fun _ _ h => h, List.Sublist.refl _, rfl, List.Sublist.refl _⟩
/-- The slots of a state, asked one by one. -/
def subk (L : KL) : KL → Prop
  | [] => True
  | (d, x) :: L' => look L d = some x ∧ subk L L'
theorem subk_le {L : KL} : ∀ {L' : KL}, subk L L' → ∀ d x, look L' d = some x → look L d = some x
  | [], _, d, x, e => by cases e
  | (d', x') :: L', h, d, x, e => by
    simp only [look] at e
    split at e
    · rename_i he; subst he; cases e; exact h.1
    · exact subk_le h.2 d x e
theorem VC.loop {ι : Type} {c : Code} (st : ι → St) (I : ι → Prop) (μ : ι → Nat) (i0 : ι) (h0 : I i0) (hs : S.le (st i0))
    (round : ∀ i, I i → ∀ G : St → Prop, (∀ j S', I j → μ j < μ i → S'.le (st j) → G S') → VC P n C (.code c :: .done G :: k) (st i)) : VC P n C (.code (.loop c) :: k) S := by
  intro a w ha hw
  have hq : ∀ i, I i → ∀ a w, Kn n (st i).L a → Sat C.B (st i) w → c.wp P (Exit.then (fun a' w' => (∃ j, I j ∧ Kn n (st j).L a' ∧ Sat C.B (st j) w' ∧ μ j < μ i)) (mkq C.ret (semx P n C k).1 (semx P n C k).2)) a w := by
    intro i hi a w ha hw
    refine wp_mono (round i hi (fun S' => ∃ j, I j ∧ μ j < μ i ∧ S'.le (st j)) (fun j S' h1 h2 h3 => ⟨j, h1, h2, h3⟩) a w ha hw) ?_
    intro e a w q
    cases e with
    | normal =>
      obtain ⟨S', k1, k2, j, h1, h2, h3⟩ := q
      exact ⟨j, h1, k1.weaken h3.1, k2.weaken h3, h2⟩
    | _ => exact q
  intro b kk cs
  have key : ∀ m i a w, μ i = m → I i → Kn n (st i).L a → Sat C.B (st i) w →
      ∃ e a' w', mkq C.ret (semx P n C k).1 (semx P n C k).2 e a' w' ∧ Arrives P (lone (b.at a (.code c :: .inLoop c :: kk)) cs w) b kk cs e a' w' := by
    intro m
    induction m using Nat.strongRecOn with
    | _ m ih =>
      intro i a w hn hI hka hkw
      obtain ⟨e, a₁, w₁, hq, harr⟩ := hq i hI a w hka hkw b (.inLoop c :: kk) cs
      cases e with
      | normal =>
        obtain ⟨j, hI₁, ha₁, hw₁, hlt⟩ := hq
        obtain ⟨e₂, a₂, w₂, hq₂, harr₂⟩ := ih (μ j) (hn ▸ hlt) j a₁ w₁ rfl hI₁ ha₁ hw₁
        exact ⟨e₂, a₂, w₂, hq₂, .of_steps (Steps.trans harr (.one step_inLoop)) harr₂⟩
      | exit id => exact ⟨.exit id, a₁, w₁, hq, .pass (x := .inLoop c) rfl (fun _ _ => .inl (by simp)) harr⟩
      | goto l => exact ⟨.goto l, a₁, w₁, hq, .pass (x := .inLoop c) rfl (fun _ _ => .inl (by simp)) harr⟩
      | ret => exact ⟨.ret, a₁, w₁, hq, .pass (x := .inLoop c) rfl (fun _ _ => .inl (by simp)) harr⟩
      | panic ch => exact ⟨.panic ch, a₁, w₁, hq, .pass (x := .inLoop c) rfl (fun _ _ => .inl (by simp)) harr⟩
      | outgrown => exact ⟨.outgrown, a₁, w₁, hq, .pass (x := .inLoop c) rfl (fun _ _ => .inl (by simp)) harr⟩
  obtain ⟨e, a', w', hq, harr⟩ := key _ i0 a w rfl h0 (ha.weaken hs.1) (hw.weaken hs)
  exact ⟨e, a', w', hq, .of_steps (.one step_loop) harr⟩
/-- A cut: what stands ahead of 'k' comes to one of some states; from each of these 'k' goes well. -/
theorem VC.cut {ι : Type} {c : Code} (st : ι → St) (I : ι → Prop) (hx : ∀ G : St → Prop, (∀ j S', I j → S'.le (st j) → G S') → VC P n C (.code c :: .done G :: k) S) (hk : ∀ i, I i → VC P n C k (st i)) : VC P n C (.code c :: k) S := by
  intro a w ha hw
  refine wp_mono (hx (fun S' => ∃ j, I j ∧ S'.le (st j)) (fun j S' h1 h2 => ⟨j, h1, h2⟩) a w ha hw) ?_
  intro e a w q
  cases e with
  | normal =>
    obtain ⟨S', k1, k2, j, h1, h2⟩ := q
    exact hk j h1 a w (k1.weaken h2.1) (k2.weaken h2)
  | _ => exact q
end
end Go.Eng

/- The engine, part 2: operations that turn nothing: what value each comes to, reckoned from what a state knows, and the proof of it. -/
namespace Go.Eng
open Go Go.RowKit

structure TD where
  d : TypeDesc
  size : Nat
  bytes : Nat
  zero : Value
/-- What the program's table says of a type. -/
def ty (P : Program) (t : TypeId) : Option TD :=
  match P.underlying t, P.info? t with
  | some d, some i => match i.zero with
    | some z => some ⟨d, i.size, i.bytes, z⟩
    | none => none
  | _, _ => none
theorem ty_some {P : Program} {t : TypeId} {D : TD} (h : ty P t = some D) : P.underlying t = some D.d ∧ ∃ i, P.info? t = some i ∧ i.size = D.size ∧ i.bytes = D.bytes ∧ i.zero = some D.zero := by
  unfold ty at h
  split at h
  · split at h
    · cases h; exact ⟨by assumption, _, by assumption, rfl, rfl, by assumption⟩
    · cases h
  · cases h
theorem ty_mk {P : Program} {t : TypeId} {d : TypeDesc} {s b : Nat} {z : Value} (h : P.underlying t = some d) (hi : (P.info? t).map (fun i => (i.zero, i.size, i.bytes)) = some (some z, s, b)) : ty P t = some ⟨d, s, b, z⟩ := by
  unfold ty
  rw [h]
  cases e : P.info? t with
  | none => rw [e] at hi; cases hi
  | some i =>
    rw [e] at hi
    simp only [Option.map_some, Option.some.injEq, Prod.mk.injEq] at hi
    obtain ⟨h1, h2, h3⟩ := hi
    simp [h1, h2, h3]
section
variable {P : Program} {t : TypeId} {D : TD} {w : World}
theorem ty_underlying (h : ty P t = some D) : (underlying t).run P w = .ok D.d w := run_underlying (ty_some h).1 w
theorem ty_info (h : ty P t = some D) : ∃ i, (typeInfo t).run P w = .ok i w ∧ i.size = D.size ∧ i.bytes = D.bytes ∧ i.zero = some D.zero := by
  obtain ⟨_, i, hi, h1, h2, h3⟩ := ty_some h
  exact ⟨i, by simp [typeInfo, hi], h1, h2, h3⟩
theorem ty_size (h : ty P t = some D) : (sizeOf t).run P w = .ok D.size w := by
  obtain ⟨i, hi, h1, _⟩ := ty_info (w := w) h
  simp [sizeOf, hi, h1]
theorem ty_zero (h : ty P t = some D) : (zeroValue t).run P w = .ok D.zero w := by
  obtain ⟨i, hi, _, _, h3⟩ := ty_info (w := w) h
  simp [zeroValue, hi, h3]
def isAggD : TypeDesc → Bool
  | .struct _ => true
  | .array _ _ => true
  | _ => false
theorem ty_agg (h : ty P t = some D) : (isAgg t).run P w = .ok (isAggD D.d) w := by
  simp only [isAgg, Sem.run_bind, ty_underlying h, Result.andThen_ok]
  cases D.d <;> rfl
end

/-! ### Operators -/
def intv (op : BinOp) (k : IntKind) (a : Int) (k' : IntKind) (b : Int) : Option Value :=
  match op with
  | .shl => if b < 0 then none else some (.int k (k.wrap (a * 2 ^ (min b.toNat k.bits))))
  | .shr => if b < 0 then none else some (.int k (a.fdiv (2 ^ (min b.toNat k.bits))))
  | _ => if k = k' then
    match op with
    | .add => some (.int k (k.wrap (a + b)))
    | .sub => some (.int k (k.wrap (a - b)))
    | .mul => some (.int k (k.wrap (a * b)))
    | .quo => if b = 0 then none else some (.int k (k.wrap (a.tdiv b)))
    | .rem => if b = 0 then none else some (.int k (a.tmod b))
    | .and => some (.int k (k.wrap (BitVec.ofInt k.bits a &&& BitVec.ofInt k.bits b).toNat))
    | .or => some (.int k (k.wrap (BitVec.ofInt k.bits a ||| BitVec.ofInt k.bits b).toNat))
    | .eql => some (.bool (decide (a = b)))
    | .neq => some (.bool (!decide (a = b)))
    | .lss => some (.bool (decide (a < b)))
    | .leq => some (.bool (decide (a ≤ b)))
    | .gtr => some (.bool (decide (a > b)))
    | .geq => some (.bool (decide (a ≥ b)))
    | _ => none
    else none
def strv (op : BinOp) (a b : ByteArray) : Option Value :=
  match op with
  | .eql => some (.bool (decide (a = b)))
  | .neq => some (.bool (!decide (a = b)))
  | .lss => some (.bool (Op.bytesLess a.toList b.toList))
  | .gtr => some (.bool (!(Op.bytesLess a.toList b.toList || decide (a = b))))
  | .add => if a.size + b.size ≤ 9223372036854775807 then some (.string (a ++ b)) else none
  | _ => none
def eqb (op : BinOp) (b : Bool) : Option Value :=
  match op with
  | .eql => some (.bool b)
  | .neq => some (.bool (!b))
  | _ => none
def litEq : Lit → Lit → Bool
  | .bool a, .bool b => decide (a = b)
  | .int k n, .int k' n' => decide (k = k') && decide (n = n')
  | .float k n, .float k' n' => decide (k = k') && decide (n = n')
  | .string a, .string b => decide (a = b)
  | .nil, .nil => true
  | _, _ => false
theorem litEq_iff (a b : Lit) : litEq a b = true ↔ a = b := by cases a <;> cases b <;> simp [litEq]
instance : DecidableEq Lit := fun a b => decidable_of_iff (litEq a b = true) (litEq_iff a b)
/-- == on structs and arrays of plain parts. -/
def aggEq (P : Program) (t : TypeId) (a b : Array Value) : Option Bool :=
  if P.keyTypeAt 16 t = true ∧ P.eqGuardType P.depth t = false ∧ (Value.agg a).formed P t = true ∧ (Value.agg b).formed P t = true then
    (match P.keyLits 16 t a.toList, P.keyLits 16 t b.toList with
      | some la, some lb => some (decide (la = lb))
      | _, _ => none)
  else none
/-- == on structs of plain fields, field by field. -/
def flatF (P : Program) (a b : Array Value) : List Field → Option Bool
  | [] => some true
  | f :: l => if f.name = "_" then none else match P.underlying f.type, a[f.offset]?, b[f.offset]? with
    | some (.int _), some (.int k x), some (.int k' y) => if k = k' then (match flatF P a b l with | some r => some (decide (x = y) && r) | none => none) else none
    | some .string, some (.string x), some (.string y) => (match flatF P a b l with | some r => some (decide (x = y) && r) | none => none)
    | some .bool, some (.bool x), some (.bool y) => (match flatF P a b l with | some r => some (decide (x = y) && r) | none => none)
    | _, _, _ => none
def flatEq (P : Program) (t : TypeId) (a b : Array Value) : Option Bool :=
  match P.underlying t with
  | some (.struct fs) => if P.stoodInHeld t = false ∧ P.eqGuardType P.depth t = false then flatF P a b fs.toList else none
  | _ => none
/-- == on structs, either way. -/
def sEq (P : Program) (t : TypeId) (a b : Array Value) : Option Bool := match flatEq P t a b with
  | some r => some r
  | none => aggEq P t a b
theorem flatF_same {P : Program} {a : Array Value} : ∀ {fs : List Field} {r : Bool}, flatF P a a fs = some r → r = true
  | [], r, h => by simp only [flatF, Option.some.injEq] at h; exact h.symm
  | f :: l, r, h => by
    simp only [flatF] at h
    split at h
    · cases h
    split at h
    · rename_i ha hb
      rw [ha] at hb
      cases hb
      split at h
      · split at h
        · rename_i hr
          have := flatF_same hr
          subst this
          simp at h
          exact h
        · cases h
      · cases h
    · rename_i ha hb
      rw [ha] at hb
      cases hb
      split at h
      · rename_i hr
        have := flatF_same hr
        subst this
        simp at h
        exact h
      · cases h
    · rename_i ha hb
      rw [ha] at hb
      cases hb
      split at h
      · rename_i hr
        have := flatF_same hr
        subst this
        simp at h
        exact h
      · cases h
    · cases h
theorem sEq_same {P : Program} {t : TypeId} {a : Array Value} (h : (flatEq P t a a).isSome = true) : sEq P t a a = some true := by
  obtain ⟨r, hr⟩ := Option.isSome_iff_exists.1 h
  unfold sEq
  rw [hr]
  unfold flatEq at hr
  split at hr
  · split at hr
    · rw [flatF_same hr]
    · cases hr
  · cases hr
def binv (P : Program) (op : BinOp) (t : TypeId) (x y : Value) : Option Value :=
  match x, y with
  | .int k a, .int k' b => intv op k a k' b
  | .string a, .string b => strv op a b
  | .bool a, .bool b => match ty P t with
    | some ⟨.bool, _, _, _⟩ => eqb op (decide (a = b))
    | _ => none
  | .pointer p, .pointer none => match ty P t with
    | some ⟨.pointer _, _, _, _⟩ => eqb op p.isNone
    | _ => none
  | .slice p _ _, .slice none _ _ => match ty P t with
    | some ⟨.slice _, _, _, _⟩ => eqb op p.isNone
    | _ => none
  | .map p, .map none => match ty P t with
    | some ⟨.map _ _, _, _, _⟩ => eqb op p.isNone
    | _ => none
  | .agg a, .agg b => match sEq P t a b with
    | some r => eqb op r
    | none => none
  | _, _ => none
theorem beq_dec {α : Type} [DecidableEq α] [BEq α] [LawfulBEq α] (a b : α) : (a == b) = decide (a = b) := by by_cases h : a = b <;> simp [h]
theorem beq_bytes (a b : ByteArray) : (a.toList == b.toList) = decide (a = b) := by
  rw [beq_dec]
  congr 1
  rw [ByteArray.toList_eq, ByteArray.toList_eq]
  refine propext ⟨fun h => ?_, fun h => by rw [h]⟩
  cases a with | mk a => cases b with | mk b => exact congrArg ByteArray.mk (Array.toList_inj.1 h)
theorem run_eqGuard {P : Program} {w : World} {op : BinOp} {t : TypeId} {x y : Operand} {a b : Value} (h : ¬ (a matches .nilIface)) (h' : ¬ (a matches .agg _)) : (eqGuard op t x y a b).run P w = .ok () w := by
  unfold eqGuard
  cases op <;> first | rfl | (cases a <;> first | rfl | exact absurd rfl h | exact absurd rfl h')
theorem run_eql {P : Program} {w : World} {t : TypeId} {a b : Value} {r : Bool} (h : (Op.equal t a b).run P w = .ok r w)
    (ha : ¬ (a matches .int _ _)) (ha2 : ¬ (a matches .string _)) (ha3 : ¬ (a matches .float _ _)) (ha4 : ¬ (a matches .complex _ _ _)) (op : BinOp) {v : Value} (hv : eqb op r = some v) : (binOp op t a b).run P w = .ok v w := by
  cases op <;> simp only [eqb] at hv <;> (try cases hv)
  · cases a <;> first | (simp [binOp, h]; done) | exact absurd rfl ha | exact absurd rfl ha2 | exact absurd rfl ha3 | exact absurd rfl ha4
  · cases a <;> first | (simp [binOp, h]; done) | exact absurd rfl ha | exact absurd rfl ha2 | exact absurd rfl ha3 | exact absurd rfl ha4
section
variable {P : Program} {w : World} {t : TypeId} {d : Nat}
theorem eq_bool (h : P.underlying t = some .bool) (a b : Bool) : (Op.equalIn (d + 1) t (.bool a) (.bool b)).run P w = .ok (decide (a = b)) w := by
  unfold Op.equalIn; simp only [Sem.run_bind, run_underlying h, Result.andThen_ok]; rw [← beq_dec]; rfl
theorem eq_ptr {e : TypeId} (h : P.underlying t = some (.pointer e)) (p : Option Addr) : (Op.equalIn (d + 1) t (.pointer p) (.pointer none)).run P w = .ok p.isNone w := by
  unfold Op.equalIn; simp only [Sem.run_bind, run_underlying h, Result.andThen_ok]; cases p <;> rfl
theorem eq_slice {e : TypeId} (h : P.underlying t = some (.slice e)) (p : Option Addr) (n c n' c' : Nat) : (Op.equalIn (d + 1) t (.slice p n c) (.slice none n' c')).run P w = .ok p.isNone w := by
  unfold Op.equalIn; simp only [Sem.run_bind, run_underlying h, Result.andThen_ok]; cases p <;> rfl
theorem eq_map {k e : TypeId} (h : P.underlying t = some (.map k e)) (p : Option Nat) : (Op.equalIn (d + 1) t (.map p) (.map none)).run P w = .ok p.isNone w := by
  unfold Op.equalIn; simp only [Sem.run_bind, run_underlying h, Result.andThen_ok]; cases p <;> rfl
end
theorem part_plain {P : Program} {w : World} {t : TypeId} {cs : Array Value} {off : Nat} {v : Value} (ht : P.underlying t = some .bool ∨ P.underlying t = some .string ∨ ∃ k, P.underlying t = some (.int k)) (hv : cs[off]? = some v) : (part t cs off).run P w = .ok v w := by
  have hag : (isAgg t).run P w = .ok false w := by
    rcases ht with h | h | ⟨k, h⟩ <;> simp [isAgg, run_underlying h]
  simp [part, hag, hv]
theorem flatF_run {P : Program} {a b : Array Value} {d : Nat} : ∀ {fs : List Field} {r : Bool} {w : World}, flatF P a b fs = some r → (Op.eqFields (d + 1) a b fs).run P w = .ok r w
  | [], r, w, h => by simp only [flatF, Option.some.injEq] at h; subst h; rfl
  | f :: l, r, w, h => by
    simp only [flatF] at h
    split at h
    · cases h
    rename_i hn
    have step : ∀ {x y : Value} {e : Bool}, (part f.type a f.offset).run P w = .ok x w → (part f.type b f.offset).run P w = .ok y w → (Op.equalIn (d + 1) f.type x y).run P w = .ok e w →
        (match flatF P a b l with | some r => some (e && r) | none => none) = some r → (Op.eqFields (d + 1) a b (f :: l)).run P w = .ok r w := by
      intro x y e h1 h2 h3 h4
      split at h4
      · rename_i r' hr
        simp only [Option.some.injEq] at h4
        unfold Op.eqFields
        rw [if_pos hn]
        simp only [Sem.run_bind, h1, h2, h3, Result.andThen_ok]
        cases e with
        | true =>
          simp only [Bool.true_and] at h4
          subst h4
          simpa using flatF_run hr
        | false =>
          simp only [Bool.false_and] at h4
          subst h4
          rfl
      · cases h4
    split at h
    · rename_i hu ha hb
      split at h
      · rename_i hk
        subst hk
        refine step (part_plain (.inr (.inr ⟨_, hu⟩)) ha) (part_plain (.inr (.inr ⟨_, hu⟩)) hb) (run_equalIn_int w d f.type _ _ _ _ hu) ?_
        rw [beq_dec]; exact h
      · cases h
    · rename_i hu ha hb
      refine step (part_plain (.inr (.inl hu)) ha) (part_plain (.inr (.inl hu)) hb) (run_equalIn_string w d f.type _ _ hu) ?_
      rw [beq_bytes]; exact h
    · rename_i hu ha hb
      refine step (part_plain (.inl hu) ha) (part_plain (.inl hu) hb) (run_equalIn_bool' w d f.type _ _ hu) ?_
      rw [beq_dec]; exact h
    · cases h
theorem binv_run {P : Program} {w : World} {op : BinOp} {t : TypeId} {x y v : Value} (h : binv P op t x y = some v) :
    (∀ ox oy : Operand, (eqGuard op t ox oy x y).run P w = .ok () w) ∧ (binOp op t x y).run P w = .ok v w := by
  unfold binv at h
  split at h
  · refine ⟨fun _ _ => run_eqGuard (by simp) (by simp), ?_⟩
    rename_i k a k' b
    unfold intv at h
    split at h
    · split at h
      · cases h
      · cases h; simp [binOp, Op.shift, *]
    · split at h
      · cases h
      · cases h; simp [binOp, Op.shift, *]
    · split at h
      · subst_vars
        cases op <;> simp only at h <;> first
          | (cases h; simp [binOp, Op.intArith, Op.intCmp, Op.intBits, beq_dec, bne]; done)
          | (split at h <;> first | (cases h; done) | (cases h; simp [binOp, Op.intDiv, *]; done))
          | (exfalso; simp_all; done)
          | cases h
      · cases h
  · refine ⟨fun _ _ => run_eqGuard (by simp) (by simp), ?_⟩
    unfold strv at h
    cases op <;> simp only at h <;> first
      | (cases h; simp [binOp, Op.stringOp, beq_bytes]; done)
      | (split at h
         · cases h; simp [binOp, Op.stringOp, IntKind.max, IntKind.bits, IntKind.signed]; omega
         · cases h)
      | cases h
  · refine ⟨fun _ _ => run_eqGuard (by simp) (by simp), ?_⟩
    split at h
    · rename_i ht
      exact run_eql (eq_bool (d := 9999) (ty_some ht).1 _ _) (by simp) (by simp) (by simp) (by simp) op h
    · cases h
  · refine ⟨fun _ _ => run_eqGuard (by simp) (by simp), ?_⟩
    split at h
    · rename_i ht
      exact run_eql (eq_ptr (d := 9999) (ty_some ht).1 _) (by simp) (by simp) (by simp) (by simp) op h
    · cases h
  · refine ⟨fun _ _ => run_eqGuard (by simp) (by simp), ?_⟩
    split at h
    · rename_i ht
      exact run_eql (eq_slice (d := 9999) (ty_some ht).1 _ _ _ _ _) (by simp) (by simp) (by simp) (by simp) op h
    · cases h
  · refine ⟨fun _ _ => run_eqGuard (by simp) (by simp), ?_⟩
    split at h
    · rename_i ht
      exact run_eql (eq_map (d := 9999) (ty_some ht).1 _) (by simp) (by simp) (by simp) (by simp) op h
    · cases h
  · split at h
    · rename_i r hr
      unfold sEq at hr
      split at hr
      case h_1 r' hf' =>
        cases hr
        have hr := hf'
        unfold flatEq at hr
        split at hr
        · rename_i fs hu
          split at hr
          · rename_i hc
            refine ⟨fun ox oy => ?_, ?_⟩
            · unfold eqGuard
              cases op <;> first | rfl | simp [hc.2]
            · have hf : P.fieldsOf t = fs := by simp [Program.fieldsOf, hu]
              refine run_eql (r := r) ?_ (by simp) (by simp) (by simp) (by simp) op h
              show (Op.equalIn (9998 + 1 + 1) t _ _).run P w = _
              rw [run_equalIn_struct w (9998 + 1) t _ _ (by rw [hf]; exact hu) hc.1, hf]
              exact flatF_run hr
          · cases hr
        · cases hr
      unfold aggEq at hr
      split at hr
      · rename_i hc
        obtain ⟨k1, k2, k3, k4⟩ := hc
        split at hr
        · rename_i la lb ha hb
          cases hr
          refine ⟨fun ox oy => ?_, ?_⟩
          · unfold eqGuard
            cases op <;> first | rfl | simp [k2]
          · obtain ⟨r, h1, h2⟩ := run_equalIn_deep (P := P) 9984 16 t k1 w 16 16 _ _ la lb k3 k4 ha hb
            have hr : r = decide (la = lb) := by
              cases r with
              | true => simp [h2.1 rfl]
              | false => simp; exact fun e => by have := h2.2 e; cases this
            subst hr
            exact run_eql h1 (by simp) (by simp) (by simp) (by simp) op h
        · cases hr
      · cases hr
    · cases h
  · cases h
end Go.Eng

/- The engine, part 3: the value of every quiet operation, and the proof of it. -/
namespace Go.Eng
open Go Go.RowKit

def ownF : List Own → Nat → Option Own
  | [], _ => none
  | o :: M, i => if o.i = i then some o else ownF M i
theorem ownF_mem : ∀ {M : List Own} {i : Nat} {o : Own}, ownF M i = some o → o ∈ M
  | [], _, _, h => by cases h
  | x :: M, i, o, h => by
    simp only [ownF] at h
    split at h
    · cases h; exact List.mem_cons_self
    · exact List.mem_cons_of_mem _ (ownF_mem h)
/-- A part of a row of cells, read as a type's value. -/
def rd (D : TD) (cs : List Value) (off : Nat) : Option Value :=
  if isAggD D.d = true then (if off + D.size ≤ cs.length then some (.agg ((cs.drop off).take D.size).toArray) else none) else cs[off]?
def fdAt (P : Program) (t : TypeId) (f : Nat) : Option (Nat × TD) :=
  match P.underlying t with
  | some (.struct fs) => match fs[f]? with
    | some fd => match ty P fd.type with
      | some D => some (fd.offset, D)
      | none => none
    | none => none
  | _ => none
theorem fdAt_mk {P : Program} {t : TypeId} {f off : Nat} {ft : TypeId} {fs : Array Field} {D : TD} (h : P.underlying t = some (.struct fs)) (hf : (fs[f]?).map (fun fd => (fd.offset, fd.type)) = some (off, ft)) (hD : ty P ft = some D) : fdAt P t f = some (off, D) := by
  unfold fdAt
  cases e : fs[f]? with
  | none => rw [e] at hf; cases hf
  | some fd =>
    rw [e] at hf
    cases hf
    simp [h, e, hD]
def idx (i : Int) (len : Nat) : Option Nat := if 0 ≤ i ∧ i < (len : Int) then some i.toNat else none
/-- The bounds of x[lo:hi]. -/
def cutb (S : St) (len cap : Nat) (lo hi : Option Operand) : Option (Nat × Nat) :=
  match (match hi with
    | none => some len
    | some h => match evo S.L h with
      | some (.v (.int _ h)) => if 0 ≤ h ∧ h ≤ (cap : Int) then some h.toNat else none
      | _ => none) with
  | none => none
  | some h => match (match lo with
    | none => some 0
    | some l => match evo S.L l with
      | some (.v (.int _ l)) => if 0 ≤ l ∧ l ≤ (h : Int) then some l.toNat else none
      | _ => none) with
    | none => none
    | some l => some (l, h)
/-- The name of a block of the call's own. -/
def ownB : List Own → Nat → Option Nat
  | [], _ => none
  | o :: M, b => if o.b = b then some o.i else ownB M b
/-- What lies in a block of the call's own. -/
def ldo (S : St) (D : TD) (i b off : Nat) : Option AV :=
  match ownF S.M i with
  | some o => if o.b = b then (match rd D o.cs off with | some v => some (.v v) | none => none) else none
  | none => none
/-- The same, of a block that is told by its number. -/
def ldb (S : St) (D : TD) : Addr → Option AV
  | ⟨b, off, none⟩ => (match ownB S.M b with
    | some i => ldo S D i b off
    | none => none)
  | _ => none
def ldv (P : Program) (S : St) (t : TypeId) (x : AV) : Option AV :=
  match ty P t with
  | none => none
  | some D => match x with
    | .o i b off => ldo S D i b off
    | .v (.pointer (some a)) => if isAggD D.d = true then (match S.F.cells a D.size with | some l => some (.v (.agg l.toArray)) | none => ldb S D a) else (match S.F.cell a with | some v => some (.v v) | none => ldb S D a)
    | _ => none
/-- Cells that are bytes. -/
def bytesV : List Value → Option (List Int)
  | [] => some []
  | .int .u8 n :: l => (match bytesV l with | some ns => some (n :: ns) | none => none)
  | _ => none
abbrev bstr (ns : List Int) : ByteArray := ns.foldl (fun r n => r.push (UInt8.ofNat n.toNat)) ByteArray.empty
theorem bytesV_map : ∀ {l : List Value} {ns : List Int}, bytesV l = some ns → l = ns.map (Value.int .u8)
  | [], ns, h => by simp only [bytesV, Option.some.injEq] at h; subst h; rfl
  | v :: l, ns, h => by
    unfold bytesV at h
    split at h
    · rename_i e; cases e
    · rename_i n l' e
      cases e
      split at h
      · rename_i ms hms
        cases h
        rw [bytesV_map hms]; rfl
      · cases h
    · cases h
theorem bytesV_of : ∀ ns : List Int, bytesV (ns.map (Value.int .u8)) = some ns
  | [] => rfl
  | n :: ns => by simp only [List.map_cons, bytesV, bytesV_of ns]
def qv (P : Program) (S : St) : Op → Option AV
  | .move x => evo S.L x
  | .assign x => evo S.L x
  | .pick c a b => match evo S.L c with
    | some (.v (.bool t)) => bif t then evo S.L a else evo S.L b
    | _ => none
  | .binOp op t x y _ => match evo S.L x, evo S.L y with
    | some a, some b => (match binv P op t a.val b.val with | some v => some (.v v) | none => none)
    | _, _ => none
  | .unOp op _ x => match op, evo S.L x with
    | .not, some (.v (.bool b)) => some (.v (.bool (!b)))
    | .neg, some (.v (.int k n)) => some (.v (.int k (k.wrap (0 - n))))
    | _, _ => none
  | .convert s d x => match ty P s, ty P d, evo S.L x with
    | some _, some ⟨.int k, _, _, _⟩, some (.v (.int _ n)) => some (.v (.int k (k.wrap n)))
    | some ⟨.slice e, _, _, _⟩, some ⟨.string, _, _, _⟩, some (.v (.slice (some a) n _)) => (match ty P e, S.F.cells a n with
      | some ⟨.int .u8, _, _, _⟩, some l => (match bytesV l with | some ns => some (.v (.string (bstr ns))) | none => none)
      | _, _ => none)
    | some ⟨.int _, _, _, _⟩, some ⟨.string, _, _, _⟩, some (.v (.int _ n)) => some (.v (.string (Utf8.encode n)))
    | some ⟨.slice e, _, _, _⟩, some ⟨.string, _, _, _⟩, some (.v (.slice none _ _)) => (match ty P e with
      | some ⟨.int .u8, _, _, _⟩ => some (.v (.string ⟨#[]⟩))
      | _ => none)
    | _, _, _ => none
  | .makeInterface t x => match ty P t, evo S.L x with
    | some ⟨.int _, _, _, _⟩, some y => some (.v (.iface t y.val))
    | some ⟨.string, _, _, _⟩, some y => some (.v (.iface t y.val))
    | some ⟨.struct _, _, _, _⟩, some y => some (.v (.iface t y.val))
    | _, _ => none
  | .makeFunc fn first cap => match evl S.L first.toList, evl S.L cap.toList with
    | some f, some c => some (.v (.func fn f.toArray c.toArray))
    | _, _ => none
  | .extract x i => match evo S.L x with
    | some (.v (.tuple vs)) => (match vs[i]? with | some v => some (.v v) | none => none)
    | _ => none
  | .field t x f => match fdAt P t f, evo S.L x with
    | some (off, D), some (.v (.agg cs)) => (match rd D cs.toList off with | some v => some (.v v) | none => none)
    | _, _ => none
  | .fieldAddr t x f => match fdAt P t f, evo S.L x with
    | some (fo, D), some (.o i b off) => if D.size = 0 then none else some (.o i b (off + fo))
    | some (fo, D), some (.v (.pointer (some a))) => if D.size = 0 then none else some (.v (.pointer (some (a.add fo))))
    | _, _ => none
  | .nilCheck x => match evo S.L x with
    | some (.o i b off) => some (.o i b off)
    | some (.v (.pointer (some a))) => some (.v (.pointer (some a)))
    | _ => none
  | .indexAddr t x ix => match ty P t, evo S.L x, evo S.L ix with
    | some ⟨.slice e, _, _, _⟩, some (.v (.slice (some a) len _)), some (.v (.int _ i)) => (match idx i len, ty P e with
      | some j, some D => some (.v (.pointer (some (a.add (j * D.size)))))
      | _, _ => none)
    | some ⟨.slice e, _, _, _⟩, some (.s n b off len _), some (.v (.int _ i)) => (match idx i len, ty P e with
      | some j, some D => some (.o n b (off + j * D.size))
      | _, _ => none)
    | some ⟨.array len e, _, _, _⟩, some (.o n b off), some (.v (.int _ i)) => (match idx i len, ty P e with
      | some j, some D => some (.o n b (off + j * D.size))
      | _, _ => none)
    | some ⟨.array len e, _, _, _⟩, some (.v (.pointer (some a))), some (.v (.int _ i)) => (match idx i len, ty P e with
      | some j, some D => some (.v (.pointer (some (a.add (j * D.size)))))
      | _, _ => none)
    | _, _, _ => none
  | .index t x ix => match ty P t, evo S.L x, evo S.L ix with
    | some ⟨.string, _, _, _⟩, some (.v (.string s)), some (.v (.int _ i)) => (match idx i s.size with
      | some j => some (.v (.int .u8 (s.data.getD j 0).toNat))
      | none => none)
    | _, _, _ => none
  | .load t a => match evo S.L a with
    | some x => ldv P S t x
    | none => none
  | .slice t x lo hi none => match ty P t, evo S.L x with
    | some ⟨.string, _, _, _⟩, some (.v (.string s)) => (match cutb S s.size s.size lo hi with
      | some (l, h) => some (.v (.string (s.extract l h)))
      | none => none)
    | some ⟨.slice e, _, _, _⟩, some (.v (.slice a len cap)) => (match cutb S len cap lo hi, ty P e with
      | some (l, h), some D => some (.v (.slice (if cap = l then a else a.map (·.add (l * D.size))) (h - l) (cap - l)))
      | _, _ => none)
    | _, _ => none
  | .call ⟨.builtin .len, args, tys⟩ => match args.toList, tys.toList with
    | [x], [t] => (match ty P t, evo S.L x with
      | some ⟨.string, _, _, _⟩, some (.v (.string s)) => some (.v (.int .i64 s.size))
      | some ⟨.slice _, _, _, _⟩, some (.v (.slice _ n _)) => some (.v (.int .i64 n))
      | some ⟨.slice _, _, _, _⟩, some (.s _ _ _ n _) => some (.v (.int .i64 n))
      | some ⟨.map _ _, _, _, _⟩, some (.v (.map none)) => some (.v (.int .i64 0))
      | some ⟨.array n _, _, _, _⟩, some _ => some (.v (.int .i64 n))
      | _, _ => none)
    | _, _ => none
  | _ => none

section
variable {P : Program} {B : Base} {S : St} {w : World} {n : Nat} {a : Act}

theorem run_value {o : Oper} {s : Sem Value} {v : Value} (h : execOp a.eval o = (do pure (.value (← s)))) (hs : s.run P w = .ok v w) : (execOp a.eval o).run P w = .ok (.value v) w := by
  rw [h]; simp [hs]
theorem Sat.own_heap (hw : Sat B S w) {i : Nat} {o : Own} (h : ownF S.M i = some o) : w.heap[o.b]? = some (.cells o.cs.toArray o.t (0, 0)) := (hw.m o (ownF_mem h)).1
theorem Sat.own_cell (hw : Sat B S w) {i : Nat} {o : Own} (h : ownF S.M i = some o) (off : Nat) : w.cell? ⟨o.b, off, none⟩ = o.cs[off]? := by
  simp [World.cell?, hw.own_heap h]
theorem add_own (b off n : Nat) : (⟨b, off, none⟩ : Addr).add n = ⟨b, off + n, none⟩ := by
  unfold Addr.add
  split
  · subst_vars; rfl
  · rfl
theorem run_load_list {t : TypeId} {D : TD} (ht : ty P t = some D) {p : Addr} {l : List Value} (hl : l.length = D.size) (hc : ∀ j v, l[j]? = some v → w.cell? (p.add j) = some v) (hag : isAggD D.d = true) :
    (Instr.loadAt t (.pointer (some p))).run P w = .ok (.agg l.toArray) w := by
  have h1 := run_loadCells_list (P := P) w p l hc
  rw [hl] at h1
  simp [Instr.loadAt, Instr.sureAddr, loadVar, ty_agg ht, hag, ty_size ht, h1]
theorem run_load_one {t : TypeId} {D : TD} (ht : ty P t = some D) {p : Addr} {v : Value} (hc : w.cell? p = some v) (hag : isAggD D.d = false) :
    (Instr.loadAt t (.pointer (some p))).run P w = .ok v w := by
  simp [Instr.loadAt, Instr.sureAddr, loadVar, ty_agg ht, hag, load, Sem.run, hc]
theorem PH.cells_get {F : PH} {p : Addr} : ∀ {n : Nat} {l : List Value}, F.cells p n = some l → l.length = n ∧ ∀ j v, l[j]? = some v → F.cell (p.add j) = some v
  | 0, l, h => by simp only [PH.cells, Option.some.injEq] at h; subst h; exact ⟨rfl, fun j v h => by simp at h⟩
  | n + 1, l, h => by
    simp only [PH.cells] at h
    cases h1 : F.cells p n with
    | none => rw [h1] at h; cases h
    | some x =>
      cases h2 : F.cell (p.add n) with
      | none => rw [h1, h2] at h; cases h
      | some y =>
        rw [h1, h2] at h
        simp only [Option.some.injEq] at h
        subst h
        obtain ⟨g1, g2⟩ := PH.cells_get h1
        refine ⟨by simp [g1], fun j v hj => ?_⟩
        rw [List.getElem?_append] at hj
        split at hj
        · exact g2 j v hj
        · have : j = n := by
            rcases Nat.lt_or_ge (j - x.length) 1 with h' | h'
            · omega
            · rw [List.getElem?_eq_none (by simpa using h')] at hj; cases hj
          subst this
          rw [g1] at hj
          simp at hj
          subst hj
          exact h2
theorem ldo_run (hw : Sat B S w) {t : TypeId} {D : TD} (ht : ty P t = some D) {i b off : Nat} {y : AV} (h : ldo S D i b off = some y) : (Instr.loadAt t (.pointer (some ⟨b, off, none⟩))).run P w = .ok y.val w := by
  unfold ldo at h
  split at h
  · rename_i o ho
    split at h
    · rename_i hb
      subst hb
      unfold rd at h
      by_cases hag : isAggD D.d = true
      · rw [if_pos hag] at h
        by_cases hl : off + D.size ≤ o.cs.length
        · rw [if_pos hl] at h
          cases h
          refine run_load_list ht (by simp; omega) ?_ hag
          intro j v hj
          rw [add_own, hw.own_cell ho]
          rw [List.getElem?_take] at hj
          split at hj
          · rw [List.getElem?_drop] at hj; exact hj
          · cases hj
        · rw [if_neg hl] at h; cases h
      · rw [if_neg hag] at h
        cases hv : o.cs[off]? with
        | none => rw [hv] at h; cases h
        | some v =>
          rw [hv] at h
          cases h
          exact run_load_one ht (by rw [hw.own_cell ho]; exact hv) (by simpa using hag)
    · cases h
  · cases h
theorem ldb_run (hw : Sat B S w) {t : TypeId} {D : TD} (ht : ty P t = some D) {a : Addr} {y : AV} (h : ldb S D a = some y) : (Instr.loadAt t (.pointer (some a))).run P w = .ok y.val w := by
  unfold ldb at h
  split at h
  · split at h
    · exact ldo_run hw ht h
    · cases h
  · cases h
theorem ldv_run (hw : Sat B S w) {t : TypeId} {x y : AV} (h : ldv P S t x = some y) : (Instr.loadAt t x.val).run P w = .ok y.val w := by
  unfold ldv at h
  split at h
  · cases h
  · rename_i D ht
    split at h
    · exact ldo_run hw ht h
    · rename_i p
      split at h
      · rename_i hag
        split at h
        · rename_i l hl
          cases h
          obtain ⟨g1, g2⟩ := PH.cells_get hl
          exact run_load_list ht g1 (fun j v hj => hw.f.cell (g2 j v hj)) hag
        · exact ldb_run hw ht h
      · rename_i hag
        split at h
        · rename_i v hv
          cases h
          exact run_load_one ht (hw.f.cell hv) (by simpa using hag)
        · exact ldb_run hw ht h
    · cases h
end
end Go.Eng

/- The engine, part 4: every quiet operation comes to the value that was reckoned; regions, guards, and what turns memory of the call's own. -/
namespace Go.Eng
open Go Go.RowKit

section
variable {P : Program} {B : Base} {S : St} {w : World} {n : Nat} {a : Act}

theorem run_value' {o : Oper} {s : Sem Value} {v : Value} {w' : World} (h : execOp a.eval o = (do pure (.value (← s)))) (hs : s.run P w = .ok v w') : (execOp a.eval o).run P w = .ok (.value v) w' := by
  rw [h]; simp [hs]
theorem fdAt_run {t : TypeId} {f off : Nat} {D : TD} (h : fdAt P t f = some (off, D)) :
    ∃ fs fd, P.underlying t = some (.struct fs) ∧ fs[f]? = some fd ∧ fd.offset = off ∧ ty P fd.type = some D := by
  unfold fdAt at h
  split at h
  · rename_i fs ht
    split at h
    · rename_i fd hf
      split at h
      · rename_i D' hD
        cases h
        exact ⟨fs, fd, ht, hf, rfl, hD⟩
      · cases h
    · cases h
  · cases h
theorem part_run {t : TypeId} {D : TD} (ht : ty P t = some D) {cs : Array Value} {off : Nat} {v : Value} (h : rd D cs.toList off = some v) : (part t cs off).run P w = .ok v w := by
  unfold rd at h
  by_cases hag : isAggD D.d = true
  · rw [if_pos hag] at h
    split at h
    · cases h
      simp only [part, Sem.run_bind, ty_agg ht, Result.andThen_ok, hag, if_true, ty_size ht, Sem.run_pure]
      congr 2
      apply Array.ext'
      simp [Array.toList_extract, List.extract]
    · cases h
  · rw [if_neg hag] at h
    simp only [part, Sem.run_bind, ty_agg ht, Result.andThen_ok, hag]
    have : cs[off]? = some v := by simpa using h
    simp [this]
theorem boundOf {k : IntKind} {h : Int} {c : Nat} (h0 : 0 ≤ h ∧ h ≤ (c : Int)) (code : BoundsCode) : (Instr.sliceBound (.int k h) c code).run P w = .ok h.toNat w := by
  simp [Instr.sliceBound, asIntOf, h0.1, h0.2]
theorem cut_one (ha : Kn n S.L a) {c d h : Nat} {hi : Option Operand} (eh : (match hi with
    | none => some d
    | some h => match evo S.L h with
      | some (.v (.int _ h)) => if 0 ≤ h ∧ h ≤ (c : Int) then some h.toNat else none
      | _ => none) = some h) : (hi = none ∧ h = d) ∨ ∃ x k v, hi = some x ∧ a.eval x = .int k v ∧ (0 ≤ v ∧ v ≤ (c : Int)) ∧ h = v.toNat := by
  cases hi with
  | none => simp only [Option.some.injEq] at eh; exact .inl ⟨rfl, eh.symm⟩
  | some x =>
    simp only at eh
    split at eh
    · rename_i k v hx
      split at eh
      · rename_i hb
        cases eh
        exact .inr ⟨x, k, v, rfl, ha.eval hx, hb, rfl⟩
      · cases eh
    · cases eh
theorem cutb_run (ha : Kn n S.L a) {len cap l h : Nat} {lo hi : Option Operand} (e : cutb S len cap lo hi = some (l, h)) (sl : Bool) :
    (Instr.sliceBounds sl len cap (lo.map a.eval) (hi.map a.eval) none).run P w = .ok (l, h, cap) w := by
  unfold cutb at e
  split at e
  · cases e
  · rename_i h' eh
    split at e
    · cases e
    · rename_i l' el
      cases e
      rcases cut_one ha eh with ⟨rfl, rfl⟩ | ⟨x, k, v, rfl, hx, hb, rfl⟩ <;> rcases cut_one ha el with ⟨rfl, rfl⟩ | ⟨x', k', v', rfl, hx', hb', rfl⟩
      · simp [Instr.sliceBounds]
      · simp [Instr.sliceBounds, hx', boundOf hb']
      · simp [Instr.sliceBounds, hx, boundOf hb]
      · simp [Instr.sliceBounds, hx, hx', boundOf hb, boundOf hb']
set_option maxHeartbeats 1000000 in
theorem qv_run (ha : Kn n S.L a) (hw : Sat B S w) {o : Oper} {y : AV} (h : qv P S o.op = some y) : (execOp a.eval o).run P w = .ok (.value y.val) w := by
  obtain ⟨dst, op, type, pos, after, guard⟩ := o
  simp only at h
  unfold qv at h
  split at h
  · simp [execOp, ha.eval h]
  · simp [execOp, ha.eval h]
  · split at h
    · rename_i hc
      rename_i c x1 x2 t
      simp only [execOp, ha.eval hc, asBool, Sem.run_bind, Sem.run_pure]
      cases t <;> simp only [cond_true, cond_false] at h <;> simp [ha.eval h]
    · cases h
  · split at h
    · rename_i h1 h2
      split at h
      · rename_i hv
        cases h
        obtain ⟨g1, g2⟩ := binv_run (w := w) hv
        refine run_value rfl ?_
        simp only [ha.eval h1, ha.eval h2, Sem.run_bind, g1, Result.andThen_ok, g2, AV.val_v]
      · cases h
    · cases h
  · split at h
    · rename_i h2
      cases h
      refine run_value rfl ?_
      simp [ha.eval h2, Op.unary]
    · rename_i h2
      cases h
      refine run_value rfl ?_
      simp [ha.eval h2, Op.unary, Op.intArith]
    · cases h
  · split at h
    · rename_i h1 h2 h3
      cases h
      refine run_value rfl ?_
      simp [convert, ha.eval h3, ty_underlying h1, ty_underlying h2, Conv.intToInt]
    · rename_i h1 h2 h3
      split at h
      · rename_i he hl
        split at h
        · rename_i ns hns
          cases h
          refine run_value rfl ?_
          obtain ⟨g1, g2⟩ := PH.cells_get hl
          rw [ha.eval h3]
          simp only [AV.val_v]
          rw [run_convert_bytes_string _ _ _ _ _ _ _ (ty_some h1).1 (ty_some he).1 (ty_some h2).1]
          refine run_bytesToString _ _ _ _ ns ?_
          have h4 := run_loadCells_list (P := P) w _ _ (fun j v hj => hw.f.cell (g2 j v hj))
          rw [g1, bytesV_map hns] at h4
          exact h4
        · cases h
      · cases h
    · rename_i h1 h2 h3
      cases h
      refine run_value rfl ?_
      rw [ha.eval h3]
      simp only [AV.val_v]
      exact run_convert_int_string w _ _ _ _ (by rw [(ty_some h1).1]; rfl) (ty_some h2).1
    · rename_i h1 h2 h3
      split at h
      · rename_i he
        cases h
        refine run_value rfl ?_
        rw [ha.eval h3]
        simp only [AV.val_v]
        simp only [convert, ty_underlying h1, ty_underlying h2, ty_underlying he, Sem.run_bind, Result.andThen_ok]
        rfl
      · cases h
    · cases h
  · split at h
    · rename_i h1 h2
      cases h
      refine run_value rfl ?_
      simp [Instr.makeInterface, ty_underlying h1, ha.eval h2]
    · rename_i h1 h2
      cases h
      refine run_value rfl ?_
      simp [Instr.makeInterface, ty_underlying h1, ha.eval h2]
    · rename_i h1 h2
      cases h
      refine run_value rfl ?_
      simp [Instr.makeInterface, ty_underlying h1, ha.eval h2]
    · cases h
  · split at h
    · rename_i fn first cap f c h1 h2
      cases h
      refine run_value rfl ?_
      have e1 := ha.evals h1
      have e2 := ha.evals h2
      simp only [Instr.makeFunc, Sem.run_pure, AV.val_v]
      rw [← e1, ← e2]
      rw [← Array.toList_map, ← Array.toList_map]
    · cases h
  · split at h
    · rename_i h1
      split at h
      · rename_i hv
        cases h
        refine run_value rfl ?_
        simp [ha.eval h1, Instr.extract, hv]
      · cases h
    · cases h
  · split at h
    · rename_i h1 h2
      split at h
      · rename_i hv
        cases h
        obtain ⟨fs, fd, g1, g2, g3, g4⟩ := fdAt_run h1
        refine run_value rfl ?_
        subst g3
        simp [ha.eval h2, Instr.field, run_underlying g1, g2, asAgg, part_run g4 hv]
      · cases h
    · cases h
  · split at h
    · rename_i h1 h2
      split at h
      · cases h
      · rename_i hz
        cases h
        obtain ⟨fs, fd, g1, g2, g3, g4⟩ := fdAt_run h1
        refine run_value rfl ?_
        subst g3
        simp [ha.eval h2, Instr.fieldAt, run_underlying g1, g2, Instr.sureAddr, fieldPlace, ty_size g4, hz, add_own]
    · rename_i h1 h2
      split at h
      · cases h
      · rename_i hz
        cases h
        obtain ⟨fs, fd, g1, g2, g3, g4⟩ := fdAt_run h1
        refine run_value rfl ?_
        subst g3
        simp [ha.eval h2, Instr.fieldAt, run_underlying g1, g2, Instr.sureAddr, fieldPlace, ty_size g4, hz]
    · cases h
  · split at h
    · rename_i h2
      cases h
      simp [execOp, ha.eval h2]
    · rename_i h2
      cases h
      simp [execOp, ha.eval h2]
    · cases h
  · split at h
    · rename_i h1 h2 h3
      split at h
      · rename_i hi hD
        cases h
        unfold idx at hi
        split at hi
        · rename_i hb
          cases hi
          refine run_value rfl ?_
          simp [ha.eval h2, ha.eval h3, Instr.indexAt, asIntOf, ty_underlying h1, hb, ty_size hD]
        · cases hi
      · cases h
    · rename_i h1 h2 h3
      split at h
      · rename_i hi hD
        cases h
        unfold idx at hi
        split at hi
        · rename_i hb
          cases hi
          refine run_value rfl ?_
          simp [ha.eval h2, ha.eval h3, Instr.indexAt, asIntOf, ty_underlying h1, hb, ty_size hD, add_own]
        · cases hi
      · cases h
    · rename_i h1 h2 h3
      split at h
      · rename_i hi hD
        cases h
        unfold idx at hi
        split at hi
        · rename_i hb
          cases hi
          refine run_value rfl ?_
          simp [ha.eval h2, ha.eval h3, Instr.indexAt, asIntOf, ty_underlying h1, hb, ty_size hD, add_own, Instr.sureAddr]
        · cases hi
      · cases h
    · rename_i h1 h2 h3
      split at h
      · rename_i hi hD
        cases h
        unfold idx at hi
        split at hi
        · rename_i hb
          cases hi
          refine run_value rfl ?_
          simp [ha.eval h2, ha.eval h3, Instr.indexAt, asIntOf, ty_underlying h1, hb, ty_size hD, Instr.sureAddr]
        · cases hi
      · cases h
    · cases h
  · split at h
    · rename_i h1 h2 h3
      split at h
      · rename_i hi
        cases h
        unfold idx at hi
        split at hi
        · rename_i hb
          cases hi
          refine run_value rfl ?_
          simp [ha.eval h2, ha.eval h3, Instr.index, asIntOf, ty_underlying h1, hb]
          rfl
        · cases hi
      · cases h
    · cases h
  · split at h
    · rename_i h2
      refine run_value rfl ?_
      rw [ha.eval h2]
      exact ldv_run hw h
    · cases h
  · split at h
    · rename_i h1 h2
      split at h
      · rename_i hc
        cases h
        refine run_value rfl ?_
        simp [ha.eval h2, Instr.sliceAt, Instr.slice, ty_underlying h1, cutb_run ha hc]
      · cases h
    · rename_i h1 h2
      split at h
      · rename_i hc hD
        cases h
        refine run_value rfl ?_
        simp [ha.eval h2, Instr.sliceAt, Instr.slice, ty_underlying h1, cutb_run ha hc, ty_size hD]
      · cases h
    · cases h
  · rename_i args tys
    split at h
    · rename_i x t e1 e2
      obtain rfl : args = #[x] := by cases args; simp at e1; simp [e1]
      obtain rfl : tys = #[t] := by cases tys; simp at e2; simp [e2]
      split at h <;> first
        | (cases h; done)
        | (rename_i h1 h2
           cases h
           simp [execOp, resolve, invoke, builtin, Builtin.len_, ha.eval h2, ty_underlying h1, goInt])
    · cases h
  · cases h
end
end Go.Eng
