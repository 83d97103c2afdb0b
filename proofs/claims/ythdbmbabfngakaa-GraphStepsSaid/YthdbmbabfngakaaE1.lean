/- The engine, part 1: partial heaps, frames that are known in part, states of a walk, and what it means that what is left of a walk goes well. -/
import Derived.Below
import Derived.WalkKit
import Derived.Deep.Draws
namespace Go.Eng
open Go Go.RowKit

/-! ### Partial heaps -/
abbrev PH := Nat → Option Obj
def PH.le (F G : PH) : Prop := ∀ b o, F b = some o → G b = some o
def PH.In (F : PH) (w : World) : Prop := ∀ b o, F b = some o → w.heap[b]? = some o
def PH.Disj (F G : PH) : Prop := ∀ b, F b = none ∨ G b = none
def PH.emp : PH := fun _ => none
def PH.one (b : Nat) (o : Obj) : PH := fun k => if k = b then some o else none
def PH.put (F : PH) (b : Nat) (o : Obj) : PH := fun k => if k = b then some o else F k

theorem PH.le_refl (F : PH) : F.le F := fun _ _ h => h
theorem PH.le_trans {F G H : PH} (h : F.le G) (k : G.le H) : F.le H := fun b o e => k b o (h b o e)
theorem PH.In.lt {F : PH} {w : World} (h : F.In w) {b : Nat} {o : Obj} (e : F b = some o) : b < w.heap.size := by
  have := h b o e
  rcases Nat.lt_or_ge b w.heap.size with hl | hl
  · exact hl
  · rw [Array.getElem?_eq_none hl] at this; cases this
theorem PH.In.fresh {F : PH} {w : World} (h : F.In w) : F w.heap.size = none := by
  cases e : F w.heap.size with
  | none => rfl
  | some o => exact absurd (h.lt e) (Nat.lt_irrefl _)
theorem PH.le_put {F : PH} {b : Nat} {o : Obj} (h : F b = none) : F.le (F.put b o) := by
  intro k u e
  unfold PH.put
  split
  · subst_vars; rw [h] at e; cases e
  · exact e
theorem PH.put_self (F : PH) (b : Nat) (o : Obj) : F.put b o b = some o := by simp [PH.put]

/-- The cell of a partial heap. -/
def PH.cell (F : PH) (a : Addr) : Option Value :=
  match F a.block with
  | some (.cells c _ _) => if a.spot.isSome then none else c[a.off]?
  | _ => none
theorem PH.In.cell {F : PH} {w : World} (h : F.In w) {a : Addr} {v : Value} (e : F.cell a = some v) : w.cell? a = some v := by
  unfold PH.cell at e
  unfold World.cell?
  cases hb : F a.block with
  | none => rw [hb] at e; cases e
  | some o =>
    rw [hb] at e
    rw [h _ _ hb]
    cases o <;> first | exact e | cases e
theorem PH.le.cell {F G : PH} (h : F.le G) {a : Addr} {v : Value} (e : F.cell a = some v) : G.cell a = some v := by
  unfold PH.cell at e ⊢
  cases hb : F a.block with
  | none => rw [hb] at e; cases e
  | some o => rw [hb] at e; rw [h _ _ hb]; exact e

/-- The cells from a place on, so many. -/
def PH.cells (F : PH) (a : Addr) : Nat → Option (List Value)
  | 0 => some []
  | n + 1 => match PH.cells F a n, F.cell (a.add n) with
    | some l, some v => some (l ++ [v])
    | _, _ => none
theorem PH.le.cells {F G : PH} (h : F.le G) {a : Addr} : ∀ {n : Nat} {l : List Value}, F.cells a n = some l → G.cells a n = some l
  | 0, _, e => e
  | n + 1, l, e => by
    simp only [PH.cells] at e ⊢
    cases h1 : F.cells a n with
    | none => rw [h1] at e; cases e
    | some x =>
      cases h2 : F.cell (a.add n) with
      | none => rw [h1, h2] at e; cases e
      | some y => rw [h1, h2] at e; rw [PH.le.cells h h1, h.cell h2]; exact e

/-! ### Values that a walk knows -/
/-- A value, or the address of a block of the call's own, with the name under which the walk has it. -/
inductive AV where
  | v (x : Value)
  | o (i b off : Nat)
  | s (i b off len cap : Nat)
def AV.val : AV → Value
  | .v x => x
  | .o _ b off => .pointer (some ⟨b, off, none⟩)
  | .s _ b off len cap => .slice (some ⟨b, off, none⟩) len cap

@[simp] theorem AV.val_v (x : Value) : (AV.v x).val = x := rfl
@[simp] theorem AV.val_o (i b off : Nat) : (AV.o i b off).val = .pointer (some ⟨b, off, none⟩) := rfl
@[simp] theorem AV.val_s (i b off n c : Nat) : (AV.s i b off n c).val = .slice (some ⟨b, off, none⟩) n c := rfl

abbrev KL := List (Nat × AV)
def look : KL → Nat → Option AV
  | [], _ => none
  | (d, x) :: L, t => if d = t then some x else look L t
def rmk : KL → Nat → KL
  | [], _ => []
  | (d, x) :: L, t => if d = t then rmk L t else (d, x) :: rmk L t
def setk (L : KL) (d : Option Nat) (x : AV) : KL :=
  match d with
  | none => L
  | some d => (d, x) :: rmk L d

/-- What is known of a frame. -/
def Kn (n : Nat) (L : KL) (a : Act) : Prop := a.defers = [] ∧ a.tmps.size = n ∧ ∀ d x, look L d = some x → d < n ∧ a.tmps.getD d undef = x.val

theorem look_rmk (L : KL) (d t : Nat) : look (rmk L d) t = if d = t then none else look L t := by
  induction L with
  | nil => simp [rmk, look]
  | cons p L ih =>
    obtain ⟨e, x⟩ := p
    simp only [rmk]
    by_cases h : e = d
    · subst h
      simp only [if_true, ih, look]
      split <;> rfl
    · simp only [if_neg h, look]
      by_cases h2 : e = t
      · subst h2; rw [if_pos rfl, if_pos rfl, if_neg (fun h' => h h'.symm)]
      · rw [if_neg h2, if_neg h2, ih]

theorem Kn.put {n : Nat} {L : KL} {a : Act} (h : Kn n L a) {d : Option Nat} {x : AV} {v : Value} (hx : x.val = v) (hd : ∀ t, d = some t → t < n) : Kn n (setk L d x) (a.put d v) := by
  obtain ⟨h0, h1, h2⟩ := h
  cases d with
  | none => exact ⟨h0, h1, h2⟩
  | some d =>
    have hdn := hd d rfl
    refine ⟨h0, by simp [Act.put, h1], ?_⟩
    intro t y hy
    simp only [setk, look, look_rmk] at hy
    by_cases e : d = t
    · subst e
      simp only [if_true, Option.some.injEq] at hy
      subst hy
      refine ⟨hdn, ?_⟩
      simp [Act.put, Array.getD, h1, hdn, hx]
    · simp only [if_neg e] at hy
      obtain ⟨g1, g2⟩ := h2 t y hy
      refine ⟨g1, ?_⟩
      rw [← g2]
      simp [Act.put, Array.getD, h1, g1, e]

def evo (L : KL) : Operand → Option AV
  | .tmp t => look L t
  | .const v => some (.v v)
  | .global g => some (.v (.pointer (some ⟨g, 0, none⟩)))
  | .func f => some (.v (.func (.func f) #[] #[]))
theorem Kn.eval {n : Nat} {L : KL} {a : Act} (h : Kn n L a) {x : Operand} {y : AV} (e : evo L x = some y) : a.eval x = y.val := by
  cases x with
  | tmp t => exact (h.2.2 t y e).2
  | const v => simp only [evo, Option.some.injEq] at e; subst e; rfl
  | global g => simp only [evo, Option.some.injEq] at e; subst e; rfl
  | func f => simp only [evo, Option.some.injEq] at e; subst e; rfl
def evl (L : KL) : List Operand → Option (List Value)
  | [] => some []
  | x :: l => match evo L x, evl L l with
    | some y, some ys => some (y.val :: ys)
    | _, _ => none
theorem Kn.evals {n : Nat} {L : KL} {a : Act} (h : Kn n L a) : ∀ {l : List Operand} {ys : List Value}, evl L l = some ys → l.map a.eval = ys
  | [], ys, e => by simp only [evl, Option.some.injEq] at e; subst e; rfl
  | x :: l, ys, e => by
    simp only [evl] at e
    cases h1 : evo L x with
    | none => rw [h1] at e; cases e
    | some y =>
      cases h2 : evl L l with
      | none => rw [h1, h2] at e; cases e
      | some zs =>
        rw [h1, h2] at e
        simp only [Option.some.injEq] at e
        subst e
        rw [List.map_cons, h.eval h1, Kn.evals h h2]

/-! ### States -/
/-- A block of the call's own: its name, its number, its cells' type, its cells. -/
structure Own where
  i : Nat
  b : Nat
  t : TypeId
  cs : List Value
/-- What a walk knows: slots, own blocks, what never turns again, what is lent to it; 'nx': the next name. -/
structure St where
  L : KL
  M : List Own
  F : PH
  R : List PH
  nx : Nat

/-- Where a call began: the world, what never turns, and which blocks it may turn. -/
structure Base where
  w : World
  F : PH
  X : Nat → Prop
/-- A later world: what was there, but for the blocks of X, is the same. -/
structure Later (X : Nat → Prop) (w w' : World) : Prop where
  os : w'.os = w.os
  tape : w'.tape = w.tape
  output : w'.output = w.output
  size : w.heap.size ≤ w'.heap.size
  block : ∀ k, k < w.heap.size → ¬ X k → w'.heap[k]? = w.heap[k]?
theorem Later.refl (X : Nat → Prop) (w : World) : Later X w w := ⟨rfl, rfl, rfl, Nat.le_refl _, fun _ _ _ => rfl⟩
theorem Later.trans {X : Nat → Prop} {a b c : World} (h : Later X a b) (k : Later X b c) : Later X a c :=
  ⟨k.os.trans h.os, k.tape.trans h.tape, k.output.trans h.output, Nat.le_trans h.size k.size, fun i hi hx => (k.block i (Nat.lt_of_lt_of_le hi h.size) hx).trans (h.block i hi hx)⟩
theorem Later.below {X : Nat → Prop} {w w' : World} (h : Later X w w') (hx : ∀ b, ¬ X b) : Below w.heap.size w w' :=
  ⟨h.os, h.tape, h.output, h.size, fun k hk => h.block k hk (hx k)⟩

structure Sat (B : Base) (S : St) (w : World) : Prop where
  f : S.F.In w
  m : ∀ o ∈ S.M, w.heap[o.b]? = some (.cells o.cs.toArray o.t (0, 0)) ∧ S.F o.b = none ∧ (∀ r ∈ S.R, r o.b = none) ∧ (B.X o.b ∨ B.w.heap.size ≤ o.b)
  mm : S.M.Pairwise (fun x y => x.b ≠ y.b)
  r : ∀ r ∈ S.R, r.In w ∧ S.F.Disj r ∧ ∀ b, r b ≠ none → B.X b ∨ B.w.heap.size ≤ b
  rr : S.R.Pairwise PH.Disj
  late : Later B.X B.w w
  f0 : B.F.le S.F
  fnew : ∀ b, S.F b ≠ none → B.F b ≠ none ∨ B.X b ∨ B.w.heap.size ≤ b

/-! ### What is left of a walk -/
inductive KItem where
  | code (c : Code)
  | ops (all : Array Oper) (l : List Oper)
  | blk (id : Nat)
  | done (G : St → Prop)

/-- The walk of one call: where it began, and what must hold where it ends. -/
structure Cx where
  B : Base
  ret : Act → World → Prop

def mkq (ret nrm : Act → World → Prop) (ex : Nat → Act → World → Prop) : Exit → Act → World → Prop
  | .normal, a, w => nrm a w
  | .ret, a, w => ret a w
  | .exit id, a, w => ex id a w
  | _, _, _ => False
/-- What is left to do, from the top on: how it goes on, and how by an exit. -/
def semx (P : Program) (n : Nat) (C : Cx) : List KItem → (Act → World → Prop) × (Nat → Act → World → Prop)
  | [] => (C.ret, fun _ _ _ => False)
  | .code c :: k => (fun a w => c.wp P (mkq C.ret (semx P n C k).1 (semx P n C k).2) a w, (semx P n C k).2)
  | .ops all l :: k => (fun a w => wpList P all (mkq C.ret (semx P n C k).1 (semx P n C k).2) l a w, (semx P n C k).2)
  | .blk id :: k => ((semx P n C k).1, fun id' a w => if id' = id then (semx P n C k).1 a w else (semx P n C k).2 id' a w)
  | .done G :: k => (fun a w => ∃ S, Kn n S.L a ∧ Sat C.B S w ∧ G S, (semx P n C k).2)
def qof (P : Program) (n : Nat) (C : Cx) (k : List KItem) : Exit → Act → World → Prop := mkq C.ret (semx P n C k).1 (semx P n C k).2
/-- From whatever fits the state, what is left goes well. -/
def VC (P : Program) (n : Nat) (C : Cx) (k : List KItem) (S : St) : Prop := ∀ a w, Kn n S.L a → Sat C.B S w → (semx P n C k).1 a w

section
variable {P : Program} {n : Nat} {C : Cx} {k : List KItem} {S : St}

theorem VC.nil (h : ∀ a w, Kn n S.L a → Sat C.B S w → C.ret a w) : VC P n C [] S := h
theorem VC.skip (h : VC P n C k S) : VC P n C (.code .skip :: k) S := fun a w ha hw => wp_skip (h a w ha hw)
theorem VC.ret (h : ∀ a w, Kn n S.L a → Sat C.B S w → C.ret a w) : VC P n C (.code .ret :: k) S := fun a w ha hw => wp_ret (h a w ha hw)
theorem VC.seq {x y : Code} (h : VC P n C (.code x :: .code y :: k) S) : VC P n C (.code (.seq x y) :: k) S := by
  intro a w ha hw
  refine wp_seq (wp_mono (h a w ha hw) ?_)
  intro e a w q
  cases e <;> exact q
theorem VC.block {id : Nat} {c : Code} (h : VC P n C (.code c :: .blk id :: k) S) : VC P n C (.code (.block id c) :: k) S := by
  intro a w ha hw
  refine wp_block (wp_mono (h a w ha hw) ?_)
  intro e a w q
  cases e with
  | exit id' =>
    show if id' = id then _ else _
    have q' : if id' = id then (semx P n C k).1 a w else (semx P n C k).2 id' a w := q
    split
    · rename_i e; rw [if_pos e] at q'; exact q'
    · rename_i e; rw [if_neg e] at q'; exact q'
  | _ => exact q
theorem VC.blk {id : Nat} (h : VC P n C k S) : VC P n C (.blk id :: k) S := h
def dropTo (id : Nat) : List KItem → Option (List KItem)
  | [] => none
  | .blk id' :: k => if id = id' then some k else dropTo id k
  | .code _ :: k => dropTo id k
  | .ops _ _ :: k => dropTo id k
  | .done _ :: k => dropTo id k
theorem dropTo_ex {id : Nat} : ∀ {k k' : List KItem}, dropTo id k = some k' → ∀ a w, (semx P n C k').1 a w → (semx P n C k).2 id a w
  | [], _, h, _, _, _ => by cases h
  | .blk id' :: k, k', h, a, w, hs => by
    simp only [dropTo] at h
    show if id = id' then _ else _
    split
    · rename_i e; rw [if_pos e] at h; cases h; exact hs
    · rename_i e; rw [if_neg e] at h; exact dropTo_ex h a w hs
  | .code _ :: k, k', h, a, w, hs => dropTo_ex (k := k) h a w hs
  | .ops _ _ :: k, k', h, a, w, hs => dropTo_ex (k := k) h a w hs
  | .done _ :: k, k', h, a, w, hs => dropTo_ex (k := k) h a w hs
theorem VC.exit {id : Nat} {k' : List KItem} (e : dropTo id k = some k') (h : VC P n C k' S) : VC P n C (.code (.exit id) :: k) S :=
  fun a w ha hw => wp_exit (dropTo_ex e a w (h a w ha hw))
theorem VC.done {G : St → Prop} (h : G S) : VC P n C (.done G :: k) S := fun _ _ ha hw => ⟨S, ha, hw, h⟩
theorem VC.opsnil {all : Array Oper} (h : VC P n C k S) : VC P n C (.ops all [] :: k) S := fun a w ha hw => wpList_nil (P := P) (ops := all) (Q := mkq C.ret (semx P n C k).1 (semx P n C k).2) (h a w ha hw)
theorem VC.region {id : Nat} {ops : Array Oper} (h : VC P n C (.ops ops ops.toList :: k) S) : VC P n C (.code (.region id ops false) :: k) S :=
  fun a w ha hw => wp_region_list (h a w ha hw)

/-! A state forgets. -/
def St.le (S S' : St) : Prop := (∀ d x, look S'.L d = some x → look S.L d = some x) ∧ S'.M.Sublist S.M ∧ S'.F = S.F ∧ S'.R.Sublist S.R
theorem Sat.weaken {B : Base} {S S' : St} {w : World} (h : Sat B S w) (hl : S.le S') : Sat B S' w := by
  obtain ⟨_, hm, hf, hr⟩ := hl
  refine ⟨hf ▸ h.f, fun o ho => ?_, h.mm.sublist hm, fun r hr' => hf ▸ h.r r (hr.subset hr'), h.rr.sublist hr, h.late, hf ▸ h.f0, hf ▸ h.fnew⟩
  obtain ⟨h1, h2, h3, h4⟩ := h.m o (hm.subset ho)
  exact ⟨h1, hf ▸ h2, fun r hr' => h3 r (hr.subset hr'), h4⟩
theorem Kn.weaken {n : Nat} {L L' : KL} {a : Act} (h : Kn n L a) (hl : ∀ d x, look L' d = some x → look L d = some x) : Kn n L' a :=
  ⟨h.1, h.2.1, fun d x e => h.2.2 d x (hl d x e)⟩
theorem VC.weaken {S' : St} (hl : S.le S') (h : VC P n C k S') : VC P n C k S := fun a w ha hw => h a w (ha.weaken hl.1) (hw.weaken hl)
theorem St.le_refl (S : St) : S.le S := ⟨fun _ _ h => h, List.Sublist.refl _, rfl, List.Sublist.refl _⟩
/-- The slots of a state, asked one by one. -/
def subk (L : KL) : KL → Prop
  | [] => True
  | (d, x) :: L' => look L d = some x ∧ subk L L'
theorem subk_le {L : KL} : ∀ {L' : KL}, subk L L' → ∀ d x, look L' d = some x → look L d = some x
  | [], _, d, x, e => by cases e
  | (d', x') :: L', h, d, x, e => by
    simp only [look] at e
    split at e
    · rename_i he; subst he; cases e; exact h.1
    · exact subk_le h.2 d x e
theorem VC.loop {ι : Type} {c : Code} (st : ι → St) (I : ι → Prop) (μ : ι → Nat) (i0 : ι) (h0 : I i0) (hs : S.le (st i0))
    (round : ∀ i, I i → ∀ G : St → Prop, (∀ j S', I j → μ j < μ i → S'.le (st j) → G S') → VC P n C (.code c :: .done G :: k) (st i)) : VC P n C (.code (.loop c) :: k) S := by
  intro a w ha hw
  have hq : ∀ i, I i → ∀ a w, Kn n (st i).L a → Sat C.B (st i) w → c.wp P (Exit.then (fun a' w' => (∃ j, I j ∧ Kn n (st j).L a' ∧ Sat C.B (st j) w' ∧ μ j < μ i)) (mkq C.ret (semx P n C k).1 (semx P n C k).2)) a w := by
    intro i hi a w ha hw
    refine wp_mono (round i hi (fun S' => ∃ j, I j ∧ μ j < μ i ∧ S'.le (st j)) (fun j S' h1 h2 h3 => ⟨j, h1, h2, h3⟩) a w ha hw) ?_
    intro e a w q
    cases e with
    | normal =>
      obtain ⟨S', k1, k2, j, h1, h2, h3⟩ := q
      exact ⟨j, h1, k1.weaken h3.1, k2.weaken h3, h2⟩
    | _ => exact q
  intro b kk cs
  have key : ∀ m i a w, μ i = m → I i → Kn n (st i).L a → Sat C.B (st i) w →
      ∃ e a' w', mkq C.ret (semx P n C k).1 (semx P n C k).2 e a' w' ∧ Arrives P (lone (b.at a (.code c :: .inLoop c :: kk)) cs w) b kk cs e a' w' := by
    intro m
    induction m using Nat.strongRecOn with
    | _ m ih =>
      intro i a w hn hI hka hkw
      obtain ⟨e, a₁, w₁, hq, harr⟩ := hq i hI a w hka hkw b (.inLoop c :: kk) cs
      cases e with
      | normal =>
        obtain ⟨j, hI₁, ha₁, hw₁, hlt⟩ := hq
        obtain ⟨e₂, a₂, w₂, hq₂, harr₂⟩ := ih (μ j) (hn ▸ hlt) j a₁ w₁ rfl hI₁ ha₁ hw₁
        exact ⟨e₂, a₂, w₂, hq₂, .of_steps (Steps.trans harr (.one step_inLoop)) harr₂⟩
      | exit id => exact ⟨.exit id, a₁, w₁, hq, .pass (x := .inLoop c) rfl (fun _ _ => .inl (by simp)) harr⟩
      | goto l => exact ⟨.goto l, a₁, w₁, hq, .pass (x := .inLoop c) rfl (fun _ _ => .inl (by simp)) harr⟩
      | ret => exact ⟨.ret, a₁, w₁, hq, .pass (x := .inLoop c) rfl (fun _ _ => .inl (by simp)) harr⟩
      | panic ch => exact ⟨.panic ch, a₁, w₁, hq, .pass (x := .inLoop c) rfl (fun _ _ => .inl (by simp)) harr⟩
      | outgrown => exact ⟨.outgrown, a₁, w₁, hq, .pass (x := .inLoop c) rfl (fun _ _ => .inl (by simp)) harr⟩
  obtain ⟨e, a', w', hq, harr⟩ := key _ i0 a w rfl h0 (ha.weaken hs.1) (hw.weaken hs)
  exact ⟨e, a', w', hq, .of_steps (.one step_loop) harr⟩
/-- A cut: what stands ahead of 'k' comes to one of some states; from each of these 'k' goes well. -/
theorem VC.cut {ι : Type} {c : Code} (st : ι → St) (I : ι → Prop) (hx : ∀ G : St → Prop, (∀ j S', I j → S'.le (st j) → G S') → VC P n C (.code c :: .done G :: k) S) (hk : ∀ i, I i → VC P n C k (st i)) : VC P n C (.code c :: k) S := by
  intro a w ha hw
  refine wp_mono (hx (fun S' => ∃ j, I j ∧ S'.le (st j)) (fun j S' h1 h2 => ⟨j, h1, h2⟩) a w ha hw) ?_
  intro e a w q
  cases e with
  | normal =>
    obtain ⟨S', k1, k2, j, h1, h2⟩ := q
    exact hk j h1 a w (k1.weaken h2.1) (k2.weaken h2)
  | _ => exact q
end
end Go.Eng
