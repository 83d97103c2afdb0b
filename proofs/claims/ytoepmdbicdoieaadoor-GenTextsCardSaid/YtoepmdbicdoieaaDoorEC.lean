/- My texts E9 E10 E11 E12 E13, in one. -/
import Derived.Test.YtoepmdbicdoieaaDoorEB
import Derived.Orders
import Derived.Maps.AppendAt
import Derived.Lib.SmallJoins
/- The engine, part 9: regions that draw their order: a plan that covers every order, held against the region by a check, and the walk along the plan. -/
namespace Go.Eng
open Go Go.RowKit
set_option linter.unusedSimpArgs false

def preds (o : Oper) : List Nat := (o.after.toList.filter (Region.binds .any)).map (·.on)
inductive Plan where
  | done
  | q (i : Nat) (p : Plan)
  | e (i : Nat) (p : Plan)
  | e2 (i : Nat) (p : Plan) (j : Nat) (r : Plan)
  | e3 (i : Nat) (p : Plan) (j : Nat) (r : Plan) (k : Nat) (s : Plan)
  | es (i : Nat) (js : List Nat) (p : Plan)
def isSel : Op → Bool
  | .select _ _ => true
  | _ => false
def qkind : Op → Bool
  | .move _ => true | .assign _ => true | .pick _ _ _ => true | .binOp _ _ _ _ _ => true | .unOp _ _ _ => true | .convert _ _ _ => true | .makeInterface _ _ => true
  | .makeFunc _ _ _ => true | .extract _ _ => true | .field _ _ _ => true | .fieldAddr _ _ _ => true | .nilCheck _ => true | .indexAddr _ _ _ => true | .index _ _ _ => true
  | .load _ _ => true | .slice _ _ _ _ none => true | .call ⟨.builtin .len, _, _⟩ => true
  | _ => false
/-- No two write one slot; what one reads and another writes stands in an order; edges lead back. -/
def drawOK (all : Array Oper) : Bool :=
  (List.range all.size).all fun i => match all[i]? with
    | none => true
    | some o => !isSel o.op && (preds o).all (fun j => decide (j < i)) && (List.range all.size).all fun j => match all[j]? with
      | none => true
      | some p => match p.dst with
        | none => true
        | some d => (!(o.looksAt all).contains d || (preds o).contains j || (preds p).contains i) && (i == j || o.dst != some d)
def predsIn (all : Array Oper) (D : List Nat) (i : Nat) : Bool :=
  match all[i]? with
  | none => false
  | some o => (preds o).all D.contains
/-- Quiet, and whoever reads its slot stands behind it. -/
def virtOK (all : Array Oper) (i : Nat) : Bool :=
  match all[i]? with
  | none => false
  | some o => qkind o.op && (match o.dst with
    | none => true
    | some d => (List.range all.size).all fun k => match all[k]? with
      | none => true
      | some p => !(p.looksAt all).contains d || (preds p).contains i)
def effOK (all : Array Oper) (V : List Nat) (i : Nat) : Bool :=
  match all[i]? with
  | none => false
  | some o => !isStore o.op || V.all (preds o).contains
/-- Those that stand ahead of some, and what stands ahead of these. -/
def ancs (all : Array Oper) (l : List Nat) : List Nat :=
  (List.range all.size).reverse.foldl (fun acc k => if acc.contains k then (match all[k]? with
    | some p => preds p ++ acc
    | none => acc) else acc) l
theorem ancs_all {all : Array Oper} {L : Nat → Prop} (hc : ∀ k p, all[k]? = some p → L k → ∀ j ∈ preds p, L j) {l : List Nat} (hl : ∀ j ∈ l, L j) : ∀ j ∈ ancs all l, L j := by
  have key : ∀ (ks acc : List Nat), (∀ j ∈ acc, L j) → ∀ j ∈ ks.foldl (fun acc k => if acc.contains k then (match all[k]? with
      | some p => preds p ++ acc
      | none => acc) else acc) acc, L j := by
    intro ks
    induction ks with
    | nil => exact fun acc h => h
    | cons k ks ih =>
      intro acc h
      refine ih _ ?_
      dsimp only
      by_cases hk : acc.contains k = true
      · rw [if_pos hk]
        split
        · rename_i p hp
          intro j hj
          rcases List.mem_append.1 hj with hj | hj
          · exact hc k p hp (h k (by simpa using hk)) j hj
          · exact h j hj
        · exact h
      · rw [if_neg hk]; exact h
  exact key _ _ hl
/-- A store, and those quiet ones that may still be to come: asked again behind it. -/
def effOKs (all : Array Oper) (V : List Nat) (i : Nat) (js : List Nat) : Bool :=
  match all[i]? with
  | none => false
  | some o => V.all fun j => (ancs all (preds o)).contains j || js.contains j
def readyIn (all : Array Oper) (D l : List Nat) : Bool := (List.range all.size).all fun i => D.contains i || !predsIn all D i || l.contains i
def planOK (all : Array Oper) : List Nat → List Nat → Plan → Bool
  | D, _, .done => (List.range all.size).all D.contains
  | D, V, .q i p => !D.contains i && decide (i < all.size) && predsIn all D i && virtOK all i && planOK all (i :: D) (i :: V) p
  | D, V, .e i p => !D.contains i && decide (i < all.size) && predsIn all D i && effOK all V i && readyIn all D [i] && planOK all (i :: D) V p
  | D, V, .e2 i p j r => !D.contains i && !D.contains j && decide (i < all.size) && decide (j < all.size) && predsIn all D i && predsIn all D j && effOK all V i && effOK all V j && readyIn all D [i, j] && planOK all (i :: D) V p && planOK all (j :: D) V r
  | D, V, .e3 i p j r k s => !D.contains i && !D.contains j && !D.contains k && decide (i < all.size) && predsIn all D i && predsIn all D j && predsIn all D k && effOK all V i && effOK all V j && effOK all V k && readyIn all D [i, j, k] && planOK all (i :: D) V p && planOK all (j :: D) V r && planOK all (k :: D) V s
  | D, V, .es i js p => !D.contains i && decide (i < all.size) && predsIn all D i && effOKs all V i js && readyIn all D [i] && planOK all (i :: D) V p
/-- An operation with its guard. -/
def opg (P : Program) (n : Nat) (B : Base) (st : Bool) (κ : St → Prop) (all : Array Oper) (i : Nat) (S : St) : Prop :=
  match all[i]? with
  | none => False
  | some o => dok n o.dst = true ∧ (match o.guard with
    | none => opn P n B st κ o S
    | some (j, want) => match gval all S.L j want with
      | some b => cnd (b == want) (opn P n B st κ ⟨o.dst, o.op, o.type, o.pos, o.after, none⟩) (skp κ o.dst) S
      | none => False)
/-- These quiet operations give what they gave. -/
def qchk (P : Program) (all : Array Oper) (S : St) : List Nat → Prop
  | [] => True
  | j :: js => (match all[j]? with
    | none => False
    | some o => o.guard = none ∧ match o.dst with
      | none => False
      | some d => qv P S o.op = look S.L d) ∧ qchk P all S js
def vpl (P : Program) (n : Nat) (B : Base) (κ : St → Prop) (all : Array Oper) : Plan → St → Prop
  | .done, S => κ S
  | .q i p, S => opg P n B true (vpl P n B κ all p) all i S
  | .e i p, S => opg P n B true (vpl P n B κ all p) all i S
  | .e2 i p j r, S => opg P n B true (vpl P n B κ all p) all i S ∧ opg P n B true (vpl P n B κ all r) all j S
  | .e3 i p j r k s, S => opg P n B true (vpl P n B κ all p) all i S ∧ opg P n B true (vpl P n B κ all r) all j S ∧ opg P n B true (vpl P n B κ all s) all k S
  | .es i js p, S => opg P n B false (fun S' => qchk P all S' js ∧ vpl P n B κ all p S') all i S

section
variable (P : Program) (n : Nat) (B : Base) (κ : St → Prop) (all : Array Oper) (S : St)
theorem vpl_done : vpl P n B κ all .done S = κ S := rfl
theorem vpl_q (i : Nat) (p : Plan) : vpl P n B κ all (.q i p) S = opg P n B true (vpl P n B κ all p) all i S := rfl
theorem vpl_e (i : Nat) (p : Plan) : vpl P n B κ all (.e i p) S = opg P n B true (vpl P n B κ all p) all i S := rfl
theorem vpl_e2 (i : Nat) (p : Plan) (j : Nat) (r : Plan) : vpl P n B κ all (.e2 i p j r) S = (opg P n B true (vpl P n B κ all p) all i S ∧ opg P n B true (vpl P n B κ all r) all j S) := rfl
theorem vpl_e3 (i : Nat) (p : Plan) (j : Nat) (r : Plan) (k : Nat) (s : Plan) : vpl P n B κ all (.e3 i p j r k s) S = (opg P n B true (vpl P n B κ all p) all i S ∧ opg P n B true (vpl P n B κ all r) all j S ∧ opg P n B true (vpl P n B κ all s) all k S) := rfl
theorem vpl_es (i : Nat) (js : List Nat) (p : Plan) : vpl P n B κ all (.es i js p) S = opg P n B false (fun S' => qchk P all S' js ∧ vpl P n B κ all p S') all i S := rfl
end
attribute [push_cast] vpl_done vpl_q vpl_e vpl_e2 vpl_e3 vpl_es opg qchk
section
variable {P : Program} {n : Nat} {C : Cx} {k : List KItem} {S : St} {all : Array Oper} {B : Base} {st : Bool}

/-- What a quiet operation comes to, its guard with it. -/
def qstep (P : Program) (all : Array Oper) (S : St) (i : Nat) (y : AV) : Prop :=
  ∃ o, all[i]? = some o ∧ qkind o.op = true ∧ (match o.guard with
    | none => qv P S o.op = some y
    | some (j, want) => ∃ b, gval all S.L j want = some b ∧ ((b == want) = true → qv P S o.op = some y) ∧ ((b == want) = false → y = .v undef))
theorem opn_q {κ : St → Prop} {o : Oper} (hq : qkind o.op = true) (h : opn P n B st κ o S) : ∃ y, qv P S o.op = some y ∧ κ { S with L := setk S.L o.dst y } := by
  obtain ⟨dst, op, type, pos, after, guard⟩ := o
  have key : ∀ {r : Option AV}, goV κ dst S r → ∃ y, r = some y ∧ κ { S with L := setk S.L dst y } := by
    intro r h
    cases r with
    | none => exact h.elim
    | some y => exact ⟨y, rfl, h⟩
  cases op with
  | call c =>
    obtain ⟨callee, args, tys⟩ := c
    cases callee with
    | builtin b => cases b <;> first | exact key h | cases hq
    | _ => cases hq
  | slice t x lo hi mx => cases mx <;> first | exact key h | cases hq
  | _ => first | exact key h | cases hq
theorem opg_q {κ : St → Prop} {i : Nat} (hv : virtOK all i = true) (h : opg P n B st κ all i S) : ∃ o y, all[i]? = some o ∧ dok n o.dst = true ∧ qstep P all S i y ∧ κ { S with L := setk S.L o.dst y } := by
  unfold opg at h
  unfold virtOK at hv
  split at h
  · exact h.elim
  · rename_i o ho
    rw [ho] at hv
    simp only [Bool.and_eq_true] at hv
    obtain ⟨hd, h⟩ := h
    split at h
    · rename_i hg
      obtain ⟨y, h1, h2⟩ := opn_q hv.1 h
      exact ⟨o, y, ho, hd, ⟨o, ho, hv.1, by rw [hg]; exact h1⟩, h2⟩
    · rename_i j want hg
      split at h
      · rename_i b hb
        by_cases e : (b == want) = true
        · obtain ⟨y, h1, h2⟩ := opn_q (o := ⟨o.dst, o.op, o.type, o.pos, o.after, none⟩) hv.1 (h.1 e)
          exact ⟨o, y, ho, hd, ⟨o, ho, hv.1, by rw [hg]; exact ⟨b, hb, fun _ => h1, fun e' => by rw [e] at e'; cases e'⟩⟩, h2⟩
        · exact ⟨o, .v undef, ho, hd, ⟨o, ho, hv.1, by rw [hg]; exact ⟨b, hb, fun e' => absurd e' e, fun _ => rfl⟩⟩, h.2 (by simpa using e)⟩
      · exact h.elim

theorem evo_congr {L L' : KL} {x : Operand} (h : ∀ t, x = .tmp t → look L' t = look L t) : evo L' x = evo L x := by
  cases x <;> first | exact h _ rfl | rfl
theorem evl_congr {L L' : KL} : ∀ {l : List Operand}, (∀ x ∈ l, evo L' x = evo L x) → evl L' l = evl L l
  | [], _ => rfl
  | x :: l, h => by
    have e := evl_congr (l := l) fun y hy => h y (List.mem_cons_of_mem _ hy)
    simp only [evl, h x List.mem_cons_self, e]
/-- Own blocks are of different numbers, and nothing that never turns lies in them. -/
def Apart (S : St) : Prop := S.M.Pairwise (fun x y => x.b ≠ y.b) ∧ ∀ o ∈ S.M, S.F o.b = none
theorem Sat.apart {w : World} {B : Base} (h : Sat B S w) : Apart S := ⟨h.mm, fun o ho => (h.m o ho).2.1⟩
theorem ldo_stab {S' : St} {D : TD} {i b off : Nat} {y : AV} (hs : Stab S S') (h : ldo S D i b off = some y) : ldo S' D i b off = some y := by
  unfold ldo at h ⊢
  split at h
  · rename_i ho; simp only [hs.2 _ _ ho]; exact h
  · cases h
theorem ownB_name : ∀ {M : List Own} {b i : Nat} {o : Own}, M.Pairwise (fun x y => x.b ≠ y.b) → ownF M i = some o → o.b = b → ∃ o', ownB M b = some o'.i ∧ o' = o
  | [], _, _, _, _, h, _ => by cases h
  | m :: M, b, i, o, hp, h, hb => by
    rw [List.pairwise_cons] at hp
    simp only [ownF] at h
    simp only [ownB]
    split at h
    · cases h; exact ⟨m, if_pos hb, rfl⟩
    · rename_i e
      obtain ⟨o', h1, h2⟩ := ownB_name hp.2 h hb
      refine ⟨o', ?_, h2⟩
      rw [if_neg (fun e => hp.1 o (ownF_mem h) (e.trans hb.symm))]
      exact h1
theorem ownF_name : ∀ {M : List Own} {i : Nat} {o : Own}, ownF M i = some o → o.i = i
  | [], _, _, h => by cases h
  | m :: M, i, o, h => by
    simp only [ownF] at h
    split at h
    · rename_i e; cases h; exact e
    · exact ownF_name h
theorem ldb_stab {S' : St} {D : TD} {a : Addr} {y : AV} (hs : Stab S S') (hd : Apart S') (h : ldb S D a = some y) : ldb S' D a = some y ∧ S'.F a.block = none := by
  unfold ldb at h
  split at h
  · rename_i b off
    split at h
    · rename_i i hi
      have h' := ldo_stab hs h
      unfold ldo at h
      split at h
      · rename_i o ho
        split at h
        · rename_i hb
          have hn := ownF_name ho
          obtain ⟨o', k1, k2⟩ := ownB_name hd.1 (hs.2 _ _ ho) hb
          subst k2
          refine ⟨?_, by show S'.F b = none; rw [← hb]; exact hd.2 _ (ownF_mem (hs.2 _ _ ho))⟩
          unfold ldb
          simp only [k1, hn]
          exact h'
        · cases h
      · cases h
    · cases h
  · cases h
theorem cell_none {F : PH} {a : Addr} (h : F a.block = none) : F.cell a = none := by simp [PH.cell, h]
theorem add_block (a : Addr) (n : Nat) : (a.add n).block = a.block := by unfold Addr.add; split <;> rfl
theorem cells_none {F : PH} {a : Addr} (h : F a.block = none) : ∀ {n : Nat}, 0 < n → F.cells a n = none
  | n + 1, _ => by
    simp only [PH.cells]
    rw [cell_none (a := a.add n) (by rw [add_block]; exact h)]
    cases F.cells a n <;> rfl
theorem ldv_stab {S' : St} {t : TypeId} {x y : AV} (hs : Stab S S') (hd : Apart S') (h : ldv P S t x = some y) : ldv P S' t x = some y := by
  unfold ldv at h ⊢
  split at h
  · cases h
  · rename_i D hD
    split at h
    · exact ldo_stab hs h
    · split at h
      · rename_i hag
        split at h
        · rename_i hl; simp only [hag, if_true, hs.1.cells hl]; exact h
        · rename_i hl
          obtain ⟨k1, k2⟩ := ldb_stab hs hd h
          by_cases h0 : D.size = 0
          · rw [h0] at hl; cases hl
          · simp only [hag, if_true, cells_none k2 (Nat.pos_of_ne_zero h0)]; exact k1
      · rename_i hag
        split at h
        · rename_i hl; simp only [hag, hs.1.cell hl]; exact h
        · obtain ⟨k1, k2⟩ := ldb_stab hs hd h
          simp only [hag, cell_none k2]; exact k1
    · cases h
theorem cutb_congr {S' : St} {len cap : Nat} {lo hi : Option Operand} (h : ∀ x, lo = some x ∨ hi = some x → evo S'.L x = evo S.L x) : cutb S' len cap lo hi = cutb S len cap lo hi := by
  unfold cutb
  cases lo <;> cases hi <;> simp [h]
theorem qv_stab {S' : St} {op : Op} {y : AV} (hq : qkind op = true) (hs : Stab S S') (hd : Apart S') (hL : ∀ x ∈ op.operands, evo S'.L x = evo S.L x) (h : qv P S op = some y) : qv P S' op = some y := by
  cases op with
  | load t x =>
    simp only [qv] at h ⊢
    rw [hL x (by simp [Op.operands])]
    split at h
    · exact ldv_stab hs hd h
    · cases h
  | convert s d x =>
    simp only [qv] at h ⊢
    rw [hL x (by simp [Op.operands])]
    split at h
    · exact h
    · split at h
      · rename_i e4 e5
        simp only [e4, hs.1.cells e5]
        exact h
      · cases h
    · exact h
    · exact h
    · cases h
  | slice t x lo hi mx =>
    cases mx with
    | some _ => exact (nomatch hq)
    | none =>
      simp only [qv] at h ⊢
      rw [hL x (by simp [Op.operands])]
      have hc : ∀ len cap, cutb S' len cap lo hi = cutb S len cap lo hi := fun len cap => cutb_congr fun z hz => hL z (by
        rcases hz with rfl | rfl <;> simp [Op.operands])
      simp only [hc]
      exact h
  | call c =>
    obtain ⟨callee, args, tys⟩ := c
    cases callee with
    | builtin b =>
      cases b <;> first
        | (simp [qkind] at hq; done)
        | (simp only [qv] at h ⊢
           split at h
           · rename_i e1 e2
             have : evo S'.L _ = evo S.L _ := hL _ (by simp [Op.operands, Call.operands]; rw [← Array.mem_toList_iff, e1]; exact List.mem_cons_self)
             simp only [e1, e2, this]
             exact h
           · cases h)
    | _ => exact (nomatch hq)
  | makeFunc fn first cap =>
    simp only [qv] at h ⊢
    rw [evl_congr (L := S.L) fun x hx => hL x (by simp [Op.operands]; exact .inl (by simpa using hx)), evl_congr (L := S.L) fun x hx => hL x (by simp [Op.operands]; exact .inr (by simpa using hx))]
    exact h
  | _ =>
    first
      | (simp [qkind] at hq; done)
      | (simp only [qv] at h ⊢
         simp only [Op.operands] at hL
         (repeat rw [hL _ (by simp)])
         exact h)

theorem put_tmps {a : Act} {d : Option Tmp} {v : Value} (t : Nat) : (a.put d v).tmps.getD t undef = if d = some t ∧ t < a.tmps.size then v else a.tmps.getD t undef := by
  cases d with
  | none => simp [Act.put]
  | some d =>
    by_cases e : d = t
    · subst e
      by_cases h : d < a.tmps.size
      · simp [Act.put, Array.getD, h]
      · simp [Act.put, Array.getD, h]
    · by_cases h : t < a.tmps.size
      · simp [Act.put, Array.getD, e, h, Array.getElem_setIfInBounds]
      · simp [Act.put, Array.getD, e, h]
theorem put_size {a : Act} {d : Option Tmp} {v : Value} : (a.put d v).tmps.size = a.tmps.size := by cases d <;> simp [Act.put]
theorem put_defers' {a : Act} {d : Option Tmp} {v : Value} : (a.put d v).defers = a.defers := by cases d <;> rfl
theorem wp_shift {o : Oper} {a a' : Act} {w : World} {T : Value → World → Prop} (hs : isSel o.op = false) (he : ∀ x ∈ o.op.operands, a.eval x = a'.eval x) (hd : ∀ d, o.dst = some d → d < a'.tmps.size)
    (h : ∀ (K : Act → World → Prop) (Q : Exit → Act → World → Prop), (∀ v w', T v w' → K (a'.put o.dst v) w') → o.wp P a' w K Q) (K : Act → World → Prop) (Q : Exit → Act → World → Prop) (hK : ∀ v w', T v w' → K (a.put o.dst v) w') : o.wp P a w K Q := by
  have h0 := h (fun a'' w'' => ∃ v, a'' = a'.put o.dst v ∧ T v w'') (fun _ _ _ => False) (fun v w' ht => ⟨v, rfl, ht⟩)
  have hinj : ∀ v w'', (∃ v', a'.put o.dst v = a'.put o.dst v' ∧ T v' w'') → K (a.put o.dst v) w'' := by
    rintro v w'' ⟨v', e, ht⟩
    cases hdd : o.dst with
    | none => have := hK v' w'' ht; rw [hdd] at this; exact this
    | some d =>
      have hlt := hd d hdd
      have e2 : v = v' := by
        have := congrArg (fun x : Act => x.tmps.getD d undef) e
        simp only [put_tmps, hdd, hlt, and_self, if_true] at this
        exact this
      subst e2
      have := hK v w'' ht
      rw [hdd] at this
      exact this
  have hns : ∀ cs b, o.op ≠ .select cs b := fun cs b e => by rw [e] at hs; cases hs
  unfold Oper.wp at h0 ⊢
  rw [execOp_congr o hns he]
  generalize (execOp a'.eval o).run P w = r at h0
  cases r with
  | ok x w' =>
    cases x with
    | value v => exact hinj v w' h0
    | skip => exact hinj undef w' h0
    | defer d =>
      obtain ⟨v, e, _⟩ := h0
      have := congrArg Act.defers e
      rw [put_defers', put_defers'] at this
      have := congrArg List.length this
      simp at this
    | enter f args =>
      refine Calls.mono h0 fun e w'' he => ?_
      cases e with
      | returned v => exact hinj v w'' he
      | panicked ch => exact he.elim
      | outgrown => obtain ⟨_, _, h⟩ := he; exact h.elim
    | row r args => exact Rows.mono h0 fun v w'' he => hinj v w'' he
    | _ => exact h0.elim
  | halt x w' => cases x <;> exact h0.elim

/-- What holds in the middle of a region: D: done, or as good as done; V: those of D that may be still to come, for they are quiet; a': the frame in which all of D are done. -/
structure J (P : Program) (n : Nat) (B : Base) (all : Array Oper) (D V : List Nat) (S : St) (fuel : Nat) (listed : Array Bool) (a a' : Act) (w : World) : Prop where
  size : listed.size = all.size
  fuel : fuel = (List.range all.size).countP (fun i => !listed.getD i true)
  sub : ∀ i, i < all.size → listed.getD i true = true → i ∈ D
  eff : ∀ i, i ∈ D → i ∉ V → listed.getD i true = true
  vd : ∀ i ∈ V, i ∈ D
  dlt : ∀ i ∈ D, i < all.size
  cl : ∀ i ∈ D, predsIn all D i = true
  kn : Kn n S.L a'
  df : a.defers = []
  sz : a.tmps.size = n
  same : ∀ t, (∀ i o, i ∈ V → listed.getD i true = false → all[i]? = some o → o.dst ≠ some t) → a.tmps.getD t undef = a'.tmps.getD t undef
  pend : ∀ i, i ∈ V → listed.getD i true = false → virtOK all i = true ∧ ∃ y, qstep P all S i y ∧ ∀ o d, all[i]? = some o → o.dst = some d → d < n ∧ look S.L d = some y
  sat : Sat B S w
  lc : ∀ k p, all[k]? = some p → listed.getD k false = true → ∀ j ∈ preds p, listed.getD j false = true
def VCD (P : Program) (n : Nat) (B : Base) (Q : Exit → Act → World → Prop) (all : Array Oper) (D V : List Nat) (S : St) : Prop :=
  ∀ fuel listed a a' w, J P n B all D V S fuel listed a a' w → wpAny P .any all Q fuel listed a w

theorem ready_mem {listed : Array Bool} {i : Nat} (h : i ∈ Region.ready .any all listed) : i < all.size ∧ listed.getD i true = false ∧ ∃ o, all[i]? = some o ∧ ∀ j ∈ preds o, listed.getD j false = true := by
  unfold Region.ready at h
  rw [List.mem_filter] at h
  obtain ⟨h1, h2⟩ := h
  rw [Bool.and_eq_true] at h2
  obtain ⟨h2, h3⟩ := h2
  have hi : i < all.size := by simpa using h1
  refine ⟨hi, by simpa using h2, all[i], Array.getElem?_eq_getElem hi, fun j hj => ?_⟩
  rw [Array.getElem?_eq_getElem hi] at h3
  simp only [Option.map_some, Option.getD_some] at h3
  unfold preds at hj
  obtain ⟨e, he, rfl⟩ := List.mem_map.1 hj
  rw [List.mem_filter] at he
  have := (Array.all_eq_true_iff_forall_mem.1 h3) e (by simpa using he.1)
  simpa [he.2] using this
theorem getD_lt {listed : Array Bool} {j : Nat} (h : listed.getD j false = true) : j < listed.size ∧ listed.getD j true = true := by
  by_cases hj : j < listed.size
  · exact ⟨hj, by simpa [Array.getD, hj] using h⟩
  · simp [Array.getD, hj] at h
theorem ready_ne (hOK : drawOK all = true) {listed : Array Bool} (hsz : listed.size = all.size) {i : Nat} (hi : i < all.size) (hu : listed.getD i true = false) : Region.ready .any all listed ≠ [] := by
  induction i using Nat.strongRecOn with
  | _ i ih =>
    by_cases hp : ∀ j ∈ preds all[i], listed.getD j false = true
    · intro e
      have : i ∈ Region.ready .any all listed := by
        unfold Region.ready
        rw [List.mem_filter]
        refine ⟨by simpa using hi, ?_⟩
        rw [Array.getElem?_eq_getElem hi]
        simp only [hu, Bool.not_false, Bool.true_and, Option.map_some, Option.getD_some]
        rw [Array.all_eq_true_iff_forall_mem]
        intro e he
        by_cases hb : Region.binds .any e = true
        · have := hp e.on (List.mem_map.2 ⟨e, List.mem_filter.2 ⟨by simpa using he, hb⟩, rfl⟩)
          simp [this]
        · simp [hb]
      rw [e] at this
      cases this
    · have ⟨j, hj⟩ := Classical.not_forall.1 hp
      have ⟨hj1, hj2⟩ := Classical.not_imp.1 hj
      have hlt : j < i := by
        unfold drawOK at hOK
        have := List.all_eq_true.1 hOK i (by simpa using hi)
        rw [Array.getElem?_eq_getElem hi] at this
        simp only [Bool.and_eq_true] at this
        simpa using (List.all_eq_true.1 this.1.2) j hj1
      refine ih j hlt (by omega) ?_
      have : j < listed.size := by omega
      simp only [Array.getD, this, dite_true] at hj2 ⊢
      simpa using hj2

theorem drawOK_at (hOK : drawOK all = true) {i j : Nat} {o p : Oper} (hi : all[i]? = some o) (hj : all[j]? = some p) {d : Tmp} (hd : p.dst = some d) :
    (d ∈ o.looksAt all → j ∈ preds o ∨ i ∈ preds p) ∧ (i = j ∨ o.dst ≠ some d) := by
  have hil : i < all.size := (Array.getElem?_eq_some_iff.1 hi).1
  have hjl : j < all.size := (Array.getElem?_eq_some_iff.1 hj).1
  unfold drawOK at hOK
  have h1 := List.all_eq_true.1 hOK i (by simpa using hil)
  rw [hi] at h1
  simp only [Bool.and_eq_true] at h1
  have h2 := List.all_eq_true.1 h1.2 j (by simpa using hjl)
  rw [hj] at h2
  simp only [hd, Bool.and_eq_true, Bool.or_eq_true] at h2
  refine ⟨fun hm => ?_, ?_⟩
  · rcases h2.1 with (h | h) | h
    · rw [Bool.not_eq_true', List.contains_eq_mem, decide_eq_false_iff_not] at h
      exact absurd hm h
    · exact .inl (by simpa using h)
    · exact .inr (by simpa using h)
  · rcases h2.2 with h | h
    · exact .inl (by simpa using h)
    · exact .inr (by simpa using h)
theorem drawOK_sel (hOK : drawOK all = true) {i : Nat} {o : Oper} (hi : all[i]? = some o) : isSel o.op = false := by
  have hil : i < all.size := (Array.getElem?_eq_some_iff.1 hi).1
  unfold drawOK at hOK
  have h1 := List.all_eq_true.1 hOK i (by simpa using hil)
  rw [hi] at h1
  simp only [Bool.and_eq_true] at h1
  simpa using h1.1.1
theorem drawOK_lt (hOK : drawOK all = true) {i : Nat} {o : Oper} (hi : all[i]? = some o) {j : Nat} (hj : j ∈ preds o) : j < i := by
  have hil : i < all.size := (Array.getElem?_eq_some_iff.1 hi).1
  unfold drawOK at hOK
  have h1 := List.all_eq_true.1 hOK i (by simpa using hil)
  rw [hi] at h1
  simp only [Bool.and_eq_true] at h1
  simpa using List.all_eq_true.1 h1.1.2 j hj
theorem virt_at {i k : Nat} {o p : Oper} (hv : virtOK all i = true) (hi : all[i]? = some o) (hk : all[k]? = some p) {d : Tmp} (hd : o.dst = some d) (hm : d ∈ p.looksAt all) : i ∈ preds p := by
  have hkl : k < all.size := (Array.getElem?_eq_some_iff.1 hk).1
  unfold virtOK at hv
  rw [hi] at hv
  simp only [hd, Bool.and_eq_true] at hv
  have h2 := List.all_eq_true.1 hv.2 k (by simpa using hkl)
  rw [hk] at h2
  simp only [Bool.or_eq_true] at h2
  rcases h2 with h | h
  · rw [Bool.not_eq_true', List.contains_eq_mem, decide_eq_false_iff_not] at h
    exact absurd hm h
  · simpa using h
theorem looks_op {o : Oper} {t : Tmp} (h : Operand.tmp t ∈ o.op.operands) : t ∈ o.looksAt all :=
  List.mem_append_left _ (List.mem_filterMap.2 ⟨.tmp t, by simpa using h, rfl⟩)
theorem looks_guard {o oj : Oper} {j : Nat} {want : Bool} {d : Tmp} (hg : o.guard = some (j, want)) (hj : all[j]? = some oj) (hd : oj.dst = some d) : d ∈ o.looksAt all := by
  refine List.mem_append_right _ ?_
  rw [hg]
  simp [hj, hd]
theorem qstep_move {S' : St} {i : Nat} {o : Oper} {y : AV} (ho : all[i]? = some o) (h : qstep P all S i y) (hs : Stab S S') (hd : Apart S') (hL : ∀ t ∈ o.looksAt all, look S'.L t = look S.L t) : qstep P all S' i y := by
  obtain ⟨o', ho', hq, hm⟩ := h
  rw [ho] at ho'
  cases ho'
  refine ⟨o, ho, hq, ?_⟩
  have hop : ∀ x ∈ o.op.operands, evo S'.L x = evo S.L x := fun x hx => evo_congr fun t ht => hL t (looks_op (ht ▸ hx))
  split at hm
  · exact qv_stab hq hs hd hop hm
  · rename_i j want hg
    obtain ⟨b, h1, h2, h3⟩ := hm
    refine ⟨b, ?_, fun e => qv_stab hq hs hd hop (h2 e), h3⟩
    unfold gval at h1 ⊢
    split at h1
    · rename_i oj hj
      split at h1
      · rename_i d hd
        simp only [hj, hd, hL d (looks_guard hg hj hd)]
        exact h1
      · cases h1
    · cases h1
theorem set_getD {listed : Array Bool} {i j : Nat} (h : j ≠ i) (b : Bool) : (listed.setIfInBounds i true).getD j b = listed.getD j b := by
  by_cases hj : j < listed.size
  · simp [Array.getD, hj, Array.getElem_setIfInBounds, Ne.symm h]
  · simp [Array.getD, hj]
theorem countP_set {listed : Array Bool} {i : Nat} (hsz : listed.size = all.size) (hi : i < all.size) (hu : listed.getD i true = false) {f : Nat} (hf : f + 1 = (List.range all.size).countP (fun i => !listed.getD i true)) :
    f = (List.range all.size).countP (fun j => !(listed.setIfInBounds i true).getD j true) := by
  have key : ∀ (l : List Nat), l.Nodup → i ∈ l → l.countP (fun j => !listed.getD j true) = l.countP (fun j => !(listed.setIfInBounds i true).getD j true) + 1 := by
    intro l hn hm
    induction l with
    | nil => cases hm
    | cons x l ih =>
      rw [List.nodup_cons] at hn
      by_cases e : x = i
      · subst e
        have hx : (listed.setIfInBounds x true).getD x true = true := by simp [Array.getD, hsz, hi]
        have hsame : l.countP (fun j => !listed.getD j true) = l.countP (fun j => !(listed.setIfInBounds x true).getD j true) := by
          refine List.countP_congr fun j hj => ?_
          have hne : x ≠ j := fun e => hn.1 (e ▸ hj)
          rw [set_getD (Ne.symm hne)]
        rw [List.countP_cons, List.countP_cons, hu, hx, hsame]
        simp
      · have hm' : i ∈ l := by rcases List.mem_cons.1 hm with h | h; exact absurd h.symm e; exact h
        have hx : (listed.setIfInBounds i true).getD x true = listed.getD x true := set_getD e true
        rw [List.countP_cons, List.countP_cons, hx, ih hn.2 hm']
        omega
  have := key (List.range all.size) List.nodup_range (by simpa using hi)
  omega
theorem set_getD_self {listed : Array Bool} {i : Nat} : (listed.setIfInBounds i true).getD i true = true := by
  by_cases h : i < listed.size <;> simp [Array.getD, h]
theorem J.lcs {D V : List Nat} {fuel : Nat} {listed : Array Bool} {a a' : Act} {w : World} (h : J P n B all D V S fuel listed a a' w) {i : Nat} {o : Oper} (ho : all[i]? = some o) (hr : ∀ j ∈ preds o, listed.getD j false = true) :
    ∀ k p, all[k]? = some p → (listed.setIfInBounds i true).getD k false = true → ∀ j ∈ preds p, (listed.setIfInBounds i true).getD j false = true := by
  have mono : ∀ j, listed.getD j false = true → (listed.setIfInBounds i true).getD j false = true := fun j hj => by
    by_cases e : j = i
    · subst e
      have := (getD_lt hj).1
      simp [Array.getD, this]
    · rw [set_getD e]; exact hj
  intro k p hp hk j hj
  by_cases e : k = i
  · subst e
    rw [ho] at hp
    cases hp
    exact mono j (hr j hj)
  · rw [set_getD e] at hk
    exact mono j (h.lc k p hp hk j hj)
theorem J.looks {D V : List Nat} {fuel : Nat} {listed : Array Bool} {a a' : Act} {w : World} (h : J P n B all D V S fuel listed a a' w) {i : Nat} {o : Oper} (ho : all[i]? = some o) (hr : ∀ j ∈ preds o, listed.getD j false = true) {t : Tmp} (ht : t ∈ o.looksAt all) : a.tmps.getD t undef = a'.tmps.getD t undef := by
  refine h.same t fun j p hj hu hp hd => ?_
  have hv := (h.pend j hj hu).1
  have := hr j (virt_at hv hp ho hd ht)
  rw [(getD_lt this).2] at hu
  cases hu
theorem J.eval {D V : List Nat} {fuel : Nat} {listed : Array Bool} {a a' : Act} {w : World} (h : J P n B all D V S fuel listed a a' w) {i : Nat} {o : Oper} (ho : all[i]? = some o) (hr : ∀ j ∈ preds o, listed.getD j false = true) : ∀ x ∈ o.op.operands, a.eval x = a'.eval x := by
  intro x hx
  cases x with
  | tmp t => exact h.looks ho hr (looks_op hx)
  | _ => rfl
theorem J.guard {D V : List Nat} {fuel : Nat} {listed : Array Bool} {a a' : Act} {w : World} (h : J P n B all D V S fuel listed a a' w) {i : Nat} {o : Oper} (ho : all[i]? = some o) (hr : ∀ j ∈ preds o, listed.getD j false = true) {j : Nat} {want b : Bool} (hg : o.guard = some (j, want)) (hv : gval all S.L j want = some b) : (yielded all a.tmps j == some want) = (b == want) := by
  unfold gval at hv
  split at hv
  · rename_i oj hj
    split at hv
    · rename_i d hd
      split at hv
      · rename_i x hl
        obtain ⟨h1, h2⟩ := h.kn.2.2 _ _ hl
        have h3 := (h.looks ho hr (looks_guard hg hj hd)).trans h2
        refine yielded_at hj hd ?_ hv
        rw [Array.getElem?_eq_getElem (by rw [h.sz]; exact h1)]
        simp only [Array.getD, h.sz, h1, dite_true] at h3
        simpa using h3
      · cases hv
    · cases hv
  · cases hv
theorem J.pstep {Q : Exit → Act → World → Prop} {D V : List Nat} {fuel : Nat} {listed : Array Bool} {a a' : Act} {w : World} (h : J P n B all D V S (fuel + 1) listed a a' w) {i : Nat} (hi : i ∈ Region.ready .any all listed) (hV : i ∈ V)
    {K : Act → World → Prop} (hK : ∀ a1, J P n B all D V S fuel (listed.setIfInBounds i true) a1 a' w → K a1 w) : wpOp P all Q i K a w := by
  obtain ⟨hil, hu, o, ho, hr⟩ := ready_mem hi
  obtain ⟨hv, y, ⟨o', ho', hq, hm⟩, hlook⟩ := h.pend i hV hu
  rw [ho] at ho'
  cases ho'
  have hnext : K (a.put o.dst y.val) w := by
    refine hK _ ⟨by simpa using h.size, countP_set h.size hil hu h.fuel, fun j hj hl => ?_, fun j hj hn => ?_, h.vd, h.dlt, h.cl, h.kn, by rw [put_defers']; exact h.df, by rw [put_size]; exact h.sz, fun t ht => ?_, fun j hj hl => ?_, h.sat, h.lcs ho hr⟩
    · by_cases e : j = i
      · subst e; exact h.vd _ hV
      · rw [set_getD e] at hl; exact h.sub j hj hl
    · by_cases e : j = i
      · subst e; exact set_getD_self
      · rw [set_getD e]; exact h.eff j hj hn
    · rw [put_tmps]
      by_cases e : o.dst = some t
      · obtain ⟨g1, g2⟩ := hlook o t ho e
        rw [if_pos ⟨e, by rw [h.sz]; exact g1⟩]
        exact ((h.kn.2.2 _ _ g2).2).symm
      · rw [if_neg (fun c => e c.1)]
        refine h.same t fun j p hj hl hp => ?_
        by_cases e2 : j = i
        · subst e2; rw [ho] at hp; cases hp; exact e
        · exact ht j p hj (by rw [set_getD e2]; exact hl) hp
    · refine h.pend j hj ?_
      by_cases e : j = i
      · subst e; rw [set_getD_self] at hl; cases hl
      · rw [set_getD e] at hl; exact hl
  have hrun : qv P S o.op = some y → (execOp a.eval o).run P w = .ok (.value y.val) w := fun hqv => by
    rw [execOp_congr o (fun cs b e => by rw [e] at hq; cases hq) (h.eval ho hr)]
    exact qv_run h.kn h.sat hqv
  have hwp : qv P S o.op = some y → o.wp P a w K Q := fun hqv => by
    unfold Oper.wp
    rw [hrun hqv, Oper.upon_value]
    exact hnext
  unfold wpOp
  rw [ho]
  simp only
  split at hm
  · rename_i hg
    rw [if_pos (by simp [Region.wanted, hg])]
    exact .inl (hwp hm)
  · rename_i j want hg
    obtain ⟨b, h1, h2, h3⟩ := hm
    have hy := h.guard ho hr hg h1
    by_cases e : (b == want) = true
    · rw [if_pos (by simpa [Region.wanted, hg, hy] using e)]
      exact .inl (hwp (h2 e))
    · rw [if_neg (by simpa [Region.wanted, hg, hy] using e)]
      have := h3 (by simpa using e)
      subst this
      exact hnext

theorem J.virt {D V : List Nat} {fuel : Nat} {listed : Array Bool} {a a' : Act} {w : World} (hOK : drawOK all = true) (h : J P n B all D V S fuel listed a a' w) {i : Nat} {o : Oper} {y : AV} (ho : all[i]? = some o) (hD : i ∉ D) (hp : predsIn all D i = true) (hv : virtOK all i = true)
    (hd : dok n o.dst = true) (hq : qstep P all S i y) : J P n B all (i :: D) (i :: V) { S with L := setk S.L o.dst y } fuel listed a (a'.put o.dst y.val) w := by
  have hil : i < all.size := (Array.getElem?_eq_some_iff.1 ho).1
  have hli : listed.getD i true = false := by
    cases e : listed.getD i true with
    | false => rfl
    | true => exact absurd (h.sub i hil e) hD
  have hlook : ∀ t, o.dst ≠ some t → look (setk S.L o.dst y) t = look S.L t := fun t ht => by
    cases hdd : o.dst with
    | none => rfl
    | some d => simp only [setk, look, look_rmk]; rw [if_neg (fun e => ht (by rw [hdd, e])), if_neg (fun e => ht (by rw [hdd, e]))]
  have hself : ∀ t, o.dst = some t → look (setk S.L o.dst y) t = some y := fun t ht => by rw [ht]; simp [setk, look]
  refine ⟨h.size, h.fuel, fun j hj hl => List.mem_cons_of_mem _ (h.sub j hj hl), fun j hj hn => ?_, fun j hj => ?_, fun j hj => ?_, fun j hj => ?_, h.kn.put rfl (dok_lt hd), h.df, h.sz, fun t ht => ?_, fun j hj hl => ?_, h.sat.setL _ _, h.lc⟩
  · rcases List.mem_cons.1 hj with rfl | hj
    · exact absurd List.mem_cons_self hn
    · exact h.eff j hj fun hm => hn (List.mem_cons_of_mem _ hm)
  · rcases List.mem_cons.1 hj with rfl | hj
    · exact List.mem_cons_self
    · exact List.mem_cons_of_mem _ (h.vd j hj)
  · rcases List.mem_cons.1 hj with rfl | hj
    · exact hil
    · exact h.dlt j hj
  · have hmono : ∀ k, predsIn all D k = true → predsIn all (i :: D) k = true := fun k hk => by
      unfold predsIn at hk ⊢
      split
      · rename_i e; rw [e] at hk; exact hk
      · rename_i p e
        rw [e] at hk
        refine List.all_eq_true.2 fun x hx => ?_
        have := List.all_eq_true.1 hk x hx
        simp only [List.contains_eq_mem, decide_eq_true_eq] at this ⊢
        exact List.mem_cons_of_mem _ this
    rcases List.mem_cons.1 hj with rfl | hj
    · exact hmono _ hp
    · exact hmono _ (h.cl j hj)
  · have h1 : o.dst ≠ some t := ht i o List.mem_cons_self hli ho
    rw [put_tmps, if_neg (fun c => h1 c.1)]
    exact h.same t fun j p hj hl hp => ht j p (List.mem_cons_of_mem _ hj) hl hp
  · rcases List.mem_cons.1 hj with rfl | hj
    · refine ⟨hv, y, qstep_move ho hq (Stab.refl _ _ _ _) h.sat.apart (fun t ht => hlook t fun e => ?_), fun o' d ho' hd' => ?_⟩
      · exact absurd (drawOK_lt hOK ho (virt_at hv ho ho e ht)) (Nat.lt_irrefl _)
      · rw [ho] at ho'; cases ho'
        exact ⟨dok_lt hd d hd', hself d hd'⟩
    · obtain ⟨g1, z, g2, g3⟩ := h.pend j hj hl
      have g2' := g2
      obtain ⟨p, hpj, _⟩ := g2'
      refine ⟨g1, z, qstep_move hpj g2 (Stab.refl _ _ _ _) h.sat.apart (fun t ht => hlook t fun e => ?_), fun o' d ho' hd' => ?_⟩
      · have := virt_at hv ho hpj e ht
        have hc := h.cl j (h.vd j hj)
        unfold predsIn at hc
        rw [hpj] at hc
        exact hD (by simpa using List.all_eq_true.1 hc i this)
      · obtain ⟨k1, k2⟩ := g3 o' d ho' hd'
        refine ⟨k1, ?_⟩
        rw [hlook d fun e => ?_]
        · exact k2
        · rcases (drawOK_at hOK ho ho' hd').2 with rfl | hne
          · exact hD (h.vd _ hj)
          · exact hne e
theorem J.estep {Q : Exit → Act → World → Prop} {κ : St → Prop} {D V : List Nat} {fuel : Nat} {listed : Array Bool} {a a' : Act} {w : World} (hOK : drawOK all = true) (h : J P n B all D V S (fuel + 1) listed a a' w) {i : Nat} (hi : i ∈ Region.ready .any all listed) (hD : i ∉ D) (he : effOK all V i = true)
    (hop : opg P n B true κ all i S) (hκ : ∀ S', κ S' → VCD P n B Q all (i :: D) V S') : wpOp P all Q i (wpAny P .any all Q fuel (listed.setIfInBounds i true)) a w := by
  obtain ⟨hil, hu, o, ho, hr⟩ := ready_mem hi
  have hpD : predsIn all D i = true := by
    unfold predsIn
    rw [ho]
    refine List.all_eq_true.2 fun j hj => ?_
    have := getD_lt (hr j hj)
    simpa using h.sub j (by rw [← h.size]; exact this.1) this.2
  have hV : i ∉ V := fun hm => hD (h.vd i hm)
  unfold opg at hop
  rw [ho] at hop
  simp only at hop
  obtain ⟨hd, hop⟩ := hop
  -- behind the step
  have hnext : ∀ (y : AV) (w' : World) (S' : St), S'.L = setk S.L o.dst y → Sat B S' w' → (isStore o.op = false → Stab S S') → J P n B all (i :: D) V S' fuel (listed.setIfInBounds i true) (a.put o.dst y.val) (a'.put o.dst y.val) w' := by
    intro y w' S' hL hs' hst
    have hlook : ∀ t, o.dst ≠ some t → look S'.L t = look S.L t := fun t ht => by
      rw [hL]
      cases hdd : o.dst with
      | none => rfl
      | some d => simp only [setk, look, look_rmk]; rw [if_neg (fun e => ht (by rw [hdd, e])), if_neg (fun e => ht (by rw [hdd, e]))]
    refine ⟨by simpa using h.size, countP_set h.size hil hu h.fuel, fun j hj hl => ?_, fun j hj hn => ?_, fun j hj => List.mem_cons_of_mem _ (h.vd j hj), fun j hj => ?_, fun j hj => ?_, by rw [hL]; exact h.kn.put rfl (dok_lt hd), by rw [put_defers']; exact h.df, by rw [put_size]; exact h.sz, fun t ht => ?_, fun j hj hl => ?_, hs', h.lcs ho hr⟩
    · by_cases e : j = i
      · subst e; exact List.mem_cons_self
      · rw [set_getD e] at hl; exact List.mem_cons_of_mem _ (h.sub j hj hl)
    · by_cases e : j = i
      · subst e; exact set_getD_self
      · rw [set_getD e]
        rcases List.mem_cons.1 hj with h' | hj
        · exact absurd h' e
        · exact h.eff j hj hn
    · rcases List.mem_cons.1 hj with rfl | hj
      · exact hil
      · exact h.dlt j hj
    · have hmono : ∀ k, predsIn all D k = true → predsIn all (i :: D) k = true := fun k hk => by
        unfold predsIn at hk ⊢
        split
        · rename_i e; rw [e] at hk; exact hk
        · rename_i p e
          rw [e] at hk
          refine List.all_eq_true.2 fun x hx => ?_
          have := List.all_eq_true.1 hk x hx
          simp only [List.contains_eq_mem, decide_eq_true_eq] at this ⊢
          exact List.mem_cons_of_mem _ this
      rcases List.mem_cons.1 hj with rfl | hj
      · exact hmono _ hpD
      · exact hmono _ (h.cl j hj)
    · rw [put_tmps, put_tmps, h.sz, h.kn.2.1]
      by_cases e : o.dst = some t ∧ t < n
      · rw [if_pos e, if_pos e]
      · rw [if_neg e, if_neg e]
        refine h.same t fun j p hj hl hp => ht j p hj ?_ hp
        rw [set_getD (fun (e : j = i) => hV (by rw [← e]; exact hj))]
        exact hl
    · have hne : j ≠ i := fun e => hV (e ▸ hj)
      rw [set_getD hne] at hl
      obtain ⟨g1, z, g2, g3⟩ := h.pend j hj hl
      have g2' := g2
      obtain ⟨p, hpj, _⟩ := g2'
      have hns : isStore o.op = false := by
        cases e : isStore o.op with
        | false => rfl
        | true =>
          unfold effOK at he
          rw [ho] at he
          simp only [e, Bool.not_true, Bool.false_or] at he
          have := List.all_eq_true.1 he j hj
          have := hr j (by simpa using this)
          rw [(getD_lt this).2] at hl
          cases hl
      refine ⟨g1, z, qstep_move hpj g2 (hst hns) hs'.apart (fun t ht => hlook t fun e => ?_), fun o' d ho' hd' => ?_⟩
      · rcases (drawOK_at hOK hpj ho e).1 ht with h1 | h1
        · have hc := h.cl j (h.vd j hj)
          unfold predsIn at hc
          rw [hpj] at hc
          exact hD (by simpa using List.all_eq_true.1 hc i h1)
        · have := hr j h1
          rw [(getD_lt this).2] at hl
          cases hl
      · obtain ⟨k1, k2⟩ := g3 o' d ho' hd'
        refine ⟨k1, ?_⟩
        rw [hlook d fun e => ?_]
        · exact k2
        · rcases (drawOK_at hOK ho ho' hd').2 with rfl | hne2
          · exact hne rfl
          · exact hne2 e
  have heff : Eff P n B true ⟨o.dst, o.op, o.type, o.pos, o.after, none⟩ S κ → o.wp P a w (wpAny P .any all Q fuel (listed.setIfInBounds i true)) Q := fun hE => by
    refine wp_shift (a' := a') (T := fun v w' => ∃ (y : AV) (S' : St), y.val = v ∧ S'.L = setk S.L o.dst y ∧ Sat B S' w' ∧ (isStore o.op = false → Stab S S') ∧ κ S') (drawOK_sel hOK ho) (h.eval ho hr) (fun d hdd => by rw [h.kn.2.1]; exact dok_lt hd d hdd) (fun K Q' hK => ?_) _ _ (fun v w' ht => ?_)
    · exact hE a' w h.kn h.sat K Q' fun y w' S' h1 h2 h3 h4 => hK _ w' ⟨y, S', rfl, h1, h2, h3 rfl, h4⟩
    · obtain ⟨y, S', rfl, h1, h2, h3, h4⟩ := ht
      exact hκ S' h4 _ _ _ _ _ (hnext y w' S' h1 h2 h3)
  unfold wpOp
  rw [ho]
  simp only
  split at hop
  · rename_i hg
    rw [if_pos (by simp [Region.wanted, hg])]
    refine .inl (heff ?_)
    have := opn_sound hop
    exact this
  · rename_i j want hg
    split at hop
    · rename_i b hb
      have hy := h.guard ho hr hg hb
      by_cases e : (b == want) = true
      · rw [if_pos (by simpa [Region.wanted, hg, hy] using e)]
        exact .inl (heff (opn_sound (hop.1 e)))
      · rw [if_neg (by simpa [Region.wanted, hg, hy] using e)]
        exact hκ _ (hop.2 (by simpa using e)) _ _ _ _ _ (hnext (.v undef) w _ rfl (h.sat.setL _ _) (fun _ => Stab.refl _ _ _ _))
    · exact hop.elim
theorem qchk_at {js : List Nat} : ∀ {j : Nat}, j ∈ js → qchk P all S js → ∃ o d, all[j]? = some o ∧ o.guard = none ∧ o.dst = some d ∧ qv P S o.op = look S.L d := by
  intro j hj h
  induction js with
  | nil => cases hj
  | cons k js ih =>
    obtain ⟨h1, h2⟩ := h
    rcases List.mem_cons.1 hj with rfl | hj
    · split at h1
      · exact h1.elim
      · rename_i o ho
        obtain ⟨hg, h1⟩ := h1
        split at h1
        · exact h1.elim
        · rename_i d hd; exact ⟨o, d, ho, hg, hd, h1⟩
    · exact ih hj h2
theorem J.estepS {js : List Nat} {Q : Exit → Act → World → Prop} {κ : St → Prop} {D V : List Nat} {fuel : Nat} {listed : Array Bool} {a a' : Act} {w : World} (hOK : drawOK all = true) (h : J P n B all D V S (fuel + 1) listed a a' w) {i : Nat} (hi : i ∈ Region.ready .any all listed) (hD : i ∉ D) (he : effOKs all V i js = true)
    (hop : opg P n B false κ all i S) (hκ : ∀ S', κ S' → VCD P n B Q all (i :: D) V S') (hq : ∀ S', κ S' → qchk P all S' js) : wpOp P all Q i (wpAny P .any all Q fuel (listed.setIfInBounds i true)) a w := by
  obtain ⟨hil, hu, o, ho, hr⟩ := ready_mem hi
  have hpD : predsIn all D i = true := by
    unfold predsIn
    rw [ho]
    refine List.all_eq_true.2 fun j hj => ?_
    have := getD_lt (hr j hj)
    simpa using h.sub j (by rw [← h.size]; exact this.1) this.2
  have hV : i ∉ V := fun hm => hD (h.vd i hm)
  unfold opg at hop
  rw [ho] at hop
  simp only at hop
  obtain ⟨hd, hop⟩ := hop
  -- behind the step
  have hnext : ∀ (y : AV) (w' : World) (S' : St), S'.L = setk S.L o.dst y → Sat B S' w' → qchk P all S' js → J P n B all (i :: D) V S' fuel (listed.setIfInBounds i true) (a.put o.dst y.val) (a'.put o.dst y.val) w' := by
    intro y w' S' hL hs' hst
    have hlook : ∀ t, o.dst ≠ some t → look S'.L t = look S.L t := fun t ht => by
      rw [hL]
      cases hdd : o.dst with
      | none => rfl
      | some d => simp only [setk, look, look_rmk]; rw [if_neg (fun e => ht (by rw [hdd, e])), if_neg (fun e => ht (by rw [hdd, e]))]
    refine ⟨by simpa using h.size, countP_set h.size hil hu h.fuel, fun j hj hl => ?_, fun j hj hn => ?_, fun j hj => List.mem_cons_of_mem _ (h.vd j hj), fun j hj => ?_, fun j hj => ?_, by rw [hL]; exact h.kn.put rfl (dok_lt hd), by rw [put_defers']; exact h.df, by rw [put_size]; exact h.sz, fun t ht => ?_, fun j hj hl => ?_, hs', h.lcs ho hr⟩
    · by_cases e : j = i
      · subst e; exact List.mem_cons_self
      · rw [set_getD e] at hl; exact List.mem_cons_of_mem _ (h.sub j hj hl)
    · by_cases e : j = i
      · subst e; exact set_getD_self
      · rw [set_getD e]
        rcases List.mem_cons.1 hj with h' | hj
        · exact absurd h' e
        · exact h.eff j hj hn
    · rcases List.mem_cons.1 hj with rfl | hj
      · exact hil
      · exact h.dlt j hj
    · have hmono : ∀ k, predsIn all D k = true → predsIn all (i :: D) k = true := fun k hk => by
        unfold predsIn at hk ⊢
        split
        · rename_i e; rw [e] at hk; exact hk
        · rename_i p e
          rw [e] at hk
          refine List.all_eq_true.2 fun x hx => ?_
          have := List.all_eq_true.1 hk x hx
          simp only [List.contains_eq_mem, decide_eq_true_eq] at this ⊢
          exact List.mem_cons_of_mem _ this
      rcases List.mem_cons.1 hj with rfl | hj
      · exact hmono _ hpD
      · exact hmono _ (h.cl j hj)
    · rw [put_tmps, put_tmps, h.sz, h.kn.2.1]
      by_cases e : o.dst = some t ∧ t < n
      · rw [if_pos e, if_pos e]
      · rw [if_neg e, if_neg e]
        refine h.same t fun j p hj hl hp => ht j p hj ?_ hp
        rw [set_getD (fun (e : j = i) => hV (by rw [← e]; exact hj))]
        exact hl
    · have hne : j ≠ i := fun e => hV (e ▸ hj)
      rw [set_getD hne] at hl
      obtain ⟨g1, z, g2, g3⟩ := h.pend j hj hl
      have g2' := g2
      obtain ⟨p, hpj, _⟩ := g2'
      have hjs : j ∈ js := by
        unfold effOKs at he
        rw [ho] at he
        have hb := List.all_eq_true.1 he j hj
        simp only [Bool.or_eq_true, List.contains_eq_mem, decide_eq_true_eq] at hb
        rcases hb with hb | hb
        · have := ancs_all (L := fun j => listed.getD j false = true) h.lc hr j hb
          rw [(getD_lt this).2] at hl
          cases hl
        · exact hb
      obtain ⟨p', d', hp', hg', hd', hv'⟩ := qchk_at hjs hst
      rw [hpj] at hp'
      cases hp'
      have hkeep : look S'.L d' = look S.L d' := hlook d' fun e => by
        rcases (drawOK_at hOK ho hpj hd').2 with rfl | hne2
        · exact hne rfl
        · exact hne2 e
      obtain ⟨_, hz⟩ := g3 p d' hpj hd'
      obtain ⟨_, hpj', hqk, _⟩ := g2
      rw [hpj] at hpj'
      cases hpj'
      refine ⟨g1, z, ⟨p, hpj, hqk, by rw [hg']; show qv P S' p.op = some z; rw [hv', hkeep, hz]⟩, fun o' d ho' hd' => ?_⟩
      · obtain ⟨k1, k2⟩ := g3 o' d ho' hd'
        refine ⟨k1, ?_⟩
        rw [hlook d fun e => ?_]
        · exact k2
        · rcases (drawOK_at hOK ho ho' hd').2 with rfl | hne2
          · exact hne rfl
          · exact hne2 e
  have heff : Eff P n B false ⟨o.dst, o.op, o.type, o.pos, o.after, none⟩ S κ → o.wp P a w (wpAny P .any all Q fuel (listed.setIfInBounds i true)) Q := fun hE => by
    refine wp_shift (a' := a') (T := fun v w' => ∃ (y : AV) (S' : St), y.val = v ∧ S'.L = setk S.L o.dst y ∧ Sat B S' w' ∧ κ S') (drawOK_sel hOK ho) (h.eval ho hr) (fun d hdd => by rw [h.kn.2.1]; exact dok_lt hd d hdd) (fun K Q' hK => ?_) _ _ (fun v w' ht => ?_)
    · exact hE a' w h.kn h.sat K Q' fun y w' S' h1 h2 _ h4 => hK _ w' ⟨y, S', rfl, h1, h2, h4⟩
    · obtain ⟨y, S', rfl, h1, h2, h4⟩ := ht
      exact hκ S' h4 _ _ _ _ _ (hnext y w' S' h1 h2 (hq S' h4))
  unfold wpOp
  rw [ho]
  simp only
  split at hop
  · rename_i hg
    rw [if_pos (by simp [Region.wanted, hg])]
    refine .inl (heff ?_)
    have := opn_sound hop
    exact this
  · rename_i j want hg
    split at hop
    · rename_i b hb
      have hy := h.guard ho hr hg hb
      by_cases e : (b == want) = true
      · rw [if_pos (by simpa [Region.wanted, hg, hy] using e)]
        exact .inl (heff (opn_sound (hop.1 e)))
      · rw [if_neg (by simpa [Region.wanted, hg, hy] using e)]
        exact hκ _ (hop.2 (by simpa using e)) _ _ _ _ _ (hnext (.v undef) w _ rfl (h.sat.setL _ _) (hq _ (hop.2 (by simpa using e))))
    · exact hop.elim
/-- One operation of those that are ready, whichever it is. -/
theorem VCD.ready {Q : Exit → Act → World → Prop} {D V l : List Nat} (hOK : drawOK all = true) (hne : ∃ i, i < all.size ∧ i ∉ D) (hr : readyIn all D l = true)
    (hl : ∀ i ∈ l, ∀ fuel listed a a' w, J P n B all D V S (fuel + 1) listed a a' w → i ∈ Region.ready .any all listed → wpOp P all Q i (wpAny P .any all Q fuel (listed.setIfInBounds i true)) a w) : VCD P n B Q all D V S := by
  intro fuel
  induction fuel with
  | zero =>
    intro listed a a' w h
    obtain ⟨i, hi, hn⟩ := hne
    have hz := h.fuel.symm
    rw [List.countP_eq_zero] at hz
    have := hz i (by simpa using hi)
    exact absurd (h.sub i hi (by simpa using this)) hn
  | succ fuel ih =>
    intro listed a a' w h
    refine ⟨fun e => ?_, fun i hi => ?_⟩
    · have hpos : 0 < (List.range all.size).countP (fun i => !listed.getD i true) := by rw [← h.fuel]; omega
      obtain ⟨i, hi, hu⟩ := List.countP_pos_iff.1 hpos
      exact absurd e (ready_ne hOK h.size (by simpa using hi) (by simpa using hu))
    · obtain ⟨hil, hu, o, ho, hp⟩ := ready_mem hi
      by_cases hD : i ∈ D
      · by_cases hV : i ∈ V
        · exact h.pstep hi hV fun a1 h1 => ih _ _ _ _ h1
        · rw [h.eff i hD hV] at hu; cases hu
      · have hpD : predsIn all D i = true := by
          unfold predsIn
          rw [ho]
          refine List.all_eq_true.2 fun j hj => ?_
          have := getD_lt (hp j hj)
          simpa using h.sub j (by rw [← h.size]; exact this.1) this.2
        have := List.all_eq_true.1 hr i (by simpa using hil)
        simp only [hpD, List.contains_eq_mem, Bool.or_eq_true, Bool.not_true, decide_eq_true_eq] at this
        rcases this with (h' | h') | h'
        · exact absurd h' hD
        · cases h'
        · exact hl i h' fuel listed a a' w h hi
theorem vpl_sound {Q : Exit → Act → World → Prop} {κ : St → Prop} (hOK : drawOK all = true) (hκ : ∀ S a w, κ S → Kn n S.L a → Sat B S w → Q .normal a w) : ∀ (p : Plan) (D V : List Nat) (S : St), planOK all D V p = true → vpl P n B κ all p S → VCD P n B Q all D V S
  | .done, D, V, S, hp, h => by
    have hall : ∀ i, i < all.size → i ∈ D := fun i hi => by simpa using List.all_eq_true.1 hp i (by simpa using hi)
    intro fuel
    induction fuel with
    | zero =>
      intro listed a a' w hJ
      have hz := hJ.fuel.symm
      rw [List.countP_eq_zero] at hz
      have hli : ∀ i, i < all.size → listed.getD i true = true := fun i hi => by simpa using hz i (by simpa using hi)
      refine ⟨?_, ?_⟩
      · apply List.eq_nil_iff_forall_not_mem.2
        intro i hi
        obtain ⟨h1, h2, _⟩ := ready_mem hi
        rw [hli i h1] at h2
        cases h2
      · refine hκ S a w h ⟨hJ.df, hJ.sz, fun d x hx => ?_⟩ hJ.sat
        obtain ⟨g1, g2⟩ := hJ.kn.2.2 d x hx
        refine ⟨g1, (hJ.same d fun i o hi hl ho => ?_).trans g2⟩
        rw [hli i (hJ.dlt i (hJ.vd i hi))] at hl
        cases hl
    | succ fuel ih =>
      intro listed a a' w hJ
      refine ⟨fun e => ?_, fun i hi => ?_⟩
      · have hpos : 0 < (List.range all.size).countP (fun i => !listed.getD i true) := by rw [← hJ.fuel]; omega
        obtain ⟨i, hi, hu⟩ := List.countP_pos_iff.1 hpos
        exact absurd e (ready_ne hOK hJ.size (by simpa using hi) (by simpa using hu))
      · obtain ⟨hil, hu, _⟩ := ready_mem hi
        by_cases hV : i ∈ V
        · exact hJ.pstep hi hV fun a1 h1 => ih _ _ _ _ h1
        · rw [hJ.eff i (hall i hil) hV] at hu; cases hu
  | .q i p, D, V, S, hp, h => by
    simp only [planOK, Bool.and_eq_true, Bool.not_eq_true', List.contains_eq_mem, decide_eq_true_eq, decide_eq_false_iff_not] at hp
    obtain ⟨⟨⟨⟨p1, p2⟩, p3⟩, p4⟩, p5⟩ := hp
    obtain ⟨o, y, ho, hd, hq, hnext⟩ := opg_q p4 h
    intro fuel listed a a' w hJ
    exact vpl_sound hOK hκ p _ _ _ p5 hnext _ _ _ _ _ (hJ.virt hOK ho p1 p3 p4 hd hq)
  | .e i p, D, V, S, hp, h => by
    simp only [planOK, Bool.and_eq_true, Bool.not_eq_true', List.contains_eq_mem, decide_eq_true_eq, decide_eq_false_iff_not] at hp
    obtain ⟨⟨⟨⟨⟨p1, p2⟩, p3⟩, p4⟩, p5⟩, p6⟩ := hp
    refine VCD.ready hOK ⟨i, p2, p1⟩ p5 fun j hj fuel listed a a' w hJ hi => ?_
    obtain rfl := List.mem_singleton.1 hj
    exact hJ.estep hOK hi p1 p4 h fun S' hS' => vpl_sound hOK hκ p _ _ _ p6 hS'
  | .e2 i p j r, D, V, S, hp, h => by
    simp only [planOK, Bool.and_eq_true, Bool.not_eq_true', List.contains_eq_mem, decide_eq_true_eq, decide_eq_false_iff_not] at hp
    obtain ⟨⟨⟨⟨⟨⟨⟨⟨⟨⟨p1, p1'⟩, p2⟩, p2'⟩, p3⟩, p3'⟩, p4⟩, p4'⟩, p5⟩, p6⟩, p6'⟩ := hp
    refine VCD.ready hOK ⟨i, p2, p1⟩ p5 fun x hx fuel listed a a' w hJ hi => ?_
    rcases List.mem_cons.1 hx with rfl | hx
    · exact hJ.estep hOK hi p1 p4 h.1 fun S' hS' => vpl_sound hOK hκ p _ _ _ p6 hS'
    · obtain rfl := List.mem_singleton.1 hx
      exact hJ.estep hOK hi p1' p4' h.2 fun S' hS' => vpl_sound hOK hκ r _ _ _ p6' hS'
  | .e3 i p j r k s, D, V, S, hp, h => by
    simp only [planOK, Bool.and_eq_true, Bool.not_eq_true', List.contains_eq_mem, decide_eq_true_eq, decide_eq_false_iff_not] at hp
    obtain ⟨⟨⟨⟨⟨⟨⟨⟨⟨⟨⟨⟨⟨p1, p1'⟩, p1''⟩, p2⟩, p3⟩, p3'⟩, p3''⟩, p4⟩, p4'⟩, p4''⟩, p5⟩, p6⟩, p6'⟩, p6''⟩ := hp
    refine VCD.ready hOK ⟨i, p2, p1⟩ p5 fun x hx fuel listed a a' w hJ hi => ?_
    rcases List.mem_cons.1 hx with rfl | hx
    · exact hJ.estep hOK hi p1 p4 h.1 fun S' hS' => vpl_sound hOK hκ p _ _ _ p6 hS'
    rcases List.mem_cons.1 hx with rfl | hx
    · exact hJ.estep hOK hi p1' p4' h.2.1 fun S' hS' => vpl_sound hOK hκ r _ _ _ p6' hS'
    · obtain rfl := List.mem_singleton.1 hx
      exact hJ.estep hOK hi p1'' p4'' h.2.2 fun S' hS' => vpl_sound hOK hκ s _ _ _ p6'' hS'
  | .es i js p, D, V, S, hp, h => by
    simp only [planOK, Bool.and_eq_true, Bool.not_eq_true', List.contains_eq_mem, decide_eq_true_eq, decide_eq_false_iff_not] at hp
    obtain ⟨⟨⟨⟨⟨p1, p2⟩, p3⟩, p4⟩, p5⟩, p6⟩ := hp
    refine VCD.ready hOK ⟨i, p2, p1⟩ p5 fun j hj fuel listed a a' w hJ hi => ?_
    obtain rfl := List.mem_singleton.1 hj
    exact hJ.estepS hOK hi p1 p4 h (fun S' hS' => vpl_sound hOK hκ p _ _ _ p6 hS'.2) (fun S' hS' => hS'.1)
theorem VC.draw {id : Nat} (p : Plan) (hm : P.follows .mixedOrders = true) (hp : (drawOK all && planOK all [] [] p) = true) (h : vpl P n C.B (VC P n C k) all p S) : VC P n C (.code (.region id all true) :: k) S := by
  rw [Bool.and_eq_true] at hp
  intro a w ha hw
  refine wp_region_any hm ?_
  have hw' : Sat C.B S { w with drawn := w.drawn + 1 } := ⟨hw.f, hw.m, hw.mm, hw.r, hw.rr, ⟨hw.late.os, hw.late.tape, hw.late.output, hw.late.size, hw.late.block⟩, hw.f0, hw.fnew⟩
  refine vpl_sound (Q := mkq C.ret (semx P n C k).1 (semx P n C k).2) hp.1 (fun S a w hS hka hkw => hS a w hka hkw) p [] [] S hp.2 h _ _ a a _ ?_
  refine ⟨by simp, ?_, fun i hi hl => ?_, fun i hi => ?_, fun i hi => ?_, fun i hi => ?_, fun i hi => ?_, ha, ha.1, ha.2.1, fun t _ => rfl, fun i hi => ?_, hw', fun k p _ hk => absurd hk (by simp [Array.getD])⟩
  · have : (List.range all.size).countP (fun i => !(Array.replicate all.size false).getD i true) = (List.range all.size).length := by
      rw [List.countP_eq_length]
      intro i hi
      have : i < all.size := by simpa using hi
      simp [Array.getD, this]
    rw [this, List.length_range]
  · simp [Array.getD, hi] at hl
  all_goals cases hi
/-- The same, with what stands behind the region cut off: every order comes to a state of which 'T' tells. -/
theorem VC.drawT {id : Nat} (T : St → Prop) (p : Plan) (hm : P.follows .mixedOrders = true) (hp : (drawOK all && planOK all [] [] p) = true) (h : vpl P n C.B T all p S) (ht : ∀ S, T S → VC P n C k S) : VC P n C (.code (.region id all true) :: k) S := by
  rw [Bool.and_eq_true] at hp
  intro a w ha hw
  refine wp_region_any hm ?_
  have hw' : Sat C.B S { w with drawn := w.drawn + 1 } := ⟨hw.f, hw.m, hw.mm, hw.r, hw.rr, ⟨hw.late.os, hw.late.tape, hw.late.output, hw.late.size, hw.late.block⟩, hw.f0, hw.fnew⟩
  refine vpl_sound (Q := mkq C.ret (semx P n C k).1 (semx P n C k).2) hp.1 (fun S a w hS hka hkw => ht S hS a w hka hkw) p [] [] S hp.2 h _ _ a a _ ?_
  refine ⟨by simp, ?_, fun i hi hl => ?_, fun i hi => ?_, fun i hi => ?_, fun i hi => ?_, fun i hi => ?_, ha, ha.1, ha.2.1, fun t _ => rfl, fun i hi => ?_, hw', fun k p _ hk => absurd hk (by simp [Array.getD])⟩
  · have : (List.range all.size).countP (fun i => !(Array.replicate all.size false).getD i true) = (List.range all.size).length := by
      rw [List.countP_eq_length]
      intro i hi
      have : i < all.size := by simpa using hi
      simp [Array.getD, this]
    rw [this, List.length_range]
  · simp [Array.getD, hi] at hl
  all_goals cases hi
end
end Go.Eng

/- The engine, part 10: slices that are read, rows that are appended to, and what is lent. -/
namespace Go.Eng
open Go Go.RowKit
set_option linter.unusedSimpArgs false

/-- What stands at a slice's places, so many cells. -/
def Src (F : PH) (p : Option Addr) (k : Nat) (ys : List Value) : Prop := ys.length = k ∧ (0 < k → ∃ a, p = some a ∧ F.cells a k = some ys)
/-- A slice of n elements of sz cells each, that is read and never turns. -/
def Sl (F : PH) (sz : Nat) (v : Value) (n : Nat) (xs : List Value) : Prop := ∃ p c, v = .slice p n c ∧ n ≤ c ∧ c ≤ maxLen ∧ Src F p (n * sz) xs
/-- A row that is the walk's own to append to. -/
def Row (r : PH) (e : TypeId) (sz : Nat) (v : Value) (xs : List Value) : Prop :=
  (v = .slice none 0 0 ∧ xs = [] ∧ ∀ b, r b = none) ∨
  ∃ g n cap cur, v = .slice (some ⟨g, 0, none⟩) n cap ∧ xs.length = n * sz ∧ r = PH.one g (.cells cur e (0, 0)) ∧ n ≤ cap ∧ cap ≤ maxLen ∧ cur.size = cap * sz ∧ cur.toList.take (n * sz) = xs
theorem Row.nil (e : TypeId) (sz : Nat) : Row PH.emp e sz (.slice none 0 0) [] := .inl ⟨rfl, rfl, fun _ => rfl⟩
theorem Src.mono {F G : PH} {p : Option Addr} {k : Nat} {ys : List Value} (h : Src F p k ys) (hl : F.le G) : Src G p k ys :=
  ⟨h.1, fun hk => let ⟨a, h1, h2⟩ := h.2 hk; ⟨a, h1, hl.cells h2⟩⟩
theorem Sl.mono {F G : PH} {sz : Nat} {v : Value} {n : Nat} {xs : List Value} (h : Sl F sz v n xs) (hl : F.le G) : Sl G sz v n xs :=
  let ⟨p, c, h1, h2, h3, h4⟩ := h; ⟨p, c, h1, h2, h3, h4.mono hl⟩
theorem add_add (a : Addr) (i j : Nat) : (a.add i).add j = a.add (i + j) := by
  unfold Addr.add
  by_cases hi : i = 0 <;> by_cases hj : j = 0 <;> simp [hi, hj, Nat.add_assoc]
theorem cells_mk {F : PH} {a : Addr} : ∀ {n : Nat} {l : List Value}, l.length = n → (∀ j v, l[j]? = some v → F.cell (a.add j) = some v) → F.cells a n = some l
  | 0, l, h, _ => by rw [List.eq_nil_of_length_eq_zero h]; rfl
  | n + 1, l, h, hc => by
    have e : l = l.take n ++ [l[n]'(by omega)] := by
      rw [← List.take_succ_eq_append_getElem (by omega), List.take_of_length_le (by omega)]
    have h1 := cells_mk (F := F) (a := a) (l := l.take n) (n := n) (by simp; omega) (fun j v hj => hc j v (by
      rw [List.getElem?_take] at hj
      split at hj
      · exact hj
      · cases hj))
    have h2 := hc n _ (List.getElem?_eq_getElem (by omega))
    simp only [PH.cells, h1, h2]
    exact congrArg some e.symm
theorem cells_sub {F : PH} {a : Addr} {n : Nat} {l : List Value} (h : F.cells a n = some l) {o m : Nat} (ho : o + m ≤ n) : F.cells (a.add o) m = some ((l.drop o).take m) := by
  obtain ⟨h1, h2⟩ := PH.cells_get h
  refine cells_mk (by simp; omega) fun j v hj => ?_
  rw [add_add]
  refine h2 (o + j) v ?_
  rw [List.getElem?_take] at hj
  split at hj
  · rw [List.getElem?_drop] at hj; exact hj
  · cases hj
theorem cell_at {F : PH} {a : Addr} {n : Nat} {l : List Value} (h : F.cells a n = some l) {o : Nat} {v : Value} (hv : l[o]? = some v) : F.cell (a.add o) = some v := (PH.cells_get h).2 o v hv
theorem add_zero' (a : Addr) : a.add 0 = a := by simp [Addr.add]
/-- The i-th element. -/
theorem Src.elem {F : PH} {p : Option Addr} {n sz : Nat} {xs : List Value} (h : Src F p (n * sz) xs) {i : Nat} (hi : i < n) (_ : 0 < sz) : ∃ a, p = some a ∧ F.cells (a.add (i * sz)) sz = some ((xs.drop (i * sz)).take sz) := by
  have hle : i * sz + sz ≤ n * sz := by
    have := Nat.mul_le_mul_right sz hi
    rw [Nat.succ_mul] at this
    exact this
  obtain ⟨a, h1, h2⟩ := h.2 (by omega)
  exact ⟨a, h1, cells_sub h2 hle⟩
theorem Src.elem1 {F : PH} {p : Option Addr} {n : Nat} {xs : List Value} (h : Src F p (n * 1) xs) {i : Nat} {v : Value} (hv : xs[i]? = some v) : ∃ a, p = some a ∧ F.cell (a.add i) = some v := by
  have hi : i < xs.length := by
    rcases Nat.lt_or_ge i xs.length with h' | h'
    · exact h'
    · rw [List.getElem?_eq_none h'] at hv; cases hv
  have := h.1
  obtain ⟨a, h1, h2⟩ := h.2 (by omega)
  exact ⟨a, h1, cell_at h2 hv⟩
theorem cell_one {F : PH} {g : Nat} {cur : Array Value} {e : TypeId} {fr : Nat × Nat} (h : F g = some (.cells cur e fr)) (j : Nat) : F.cell ⟨g, j, none⟩ = cur[j]? := by
  simp [PH.cell, h]
/-- A block that was built reads as its cells. -/
theorem cells_blk {F : PH} {g : Nat} {cs : List Value} {e : TypeId} {fr : Nat × Nat} (h : F g = some (.cells cs.toArray e fr)) {n : Nat} (hn : n = cs.length) : F.cells ⟨g, 0, none⟩ n = some cs := by
  refine cells_mk hn.symm fun j v hj => ?_
  rw [add_own, cell_one h]
  simpa using hj
theorem Src.blk {F : PH} {g : Nat} {cs : List Value} {e : TypeId} {fr : Nat × Nat} (h : F g = some (.cells cs.toArray e fr)) {n : Nat} (hn : n = cs.length) : Src F (some ⟨g, 0, none⟩) n cs := ⟨hn.symm, fun _ => ⟨_, rfl, cells_blk h hn⟩⟩
/-- A row that never turns again is read. -/
theorem Row.sl {r F : PH} {e : TypeId} {sz : Nat} {v : Value} {xs : List Value} (h : Row r e sz v xs) (hl : r.le F) : ∃ n, xs.length = n * sz ∧ Sl F sz v n xs := by
  rcases h with ⟨rfl, rfl, _⟩ | ⟨g, n, cap, cur, rfl, h1, rfl, h2, h3, h4, h5⟩
  · exact ⟨0, by simp, none, 0, rfl, Nat.le_refl _, Nat.zero_le _, by simp, fun h => absurd h (by simp)⟩
  · refine ⟨n, h1, some ⟨g, 0, none⟩, cap, rfl, h2, h3, h1, fun _ => ⟨_, rfl, cells_mk h1 fun j u hj => ?_⟩⟩
    have hF : F g = some (.cells cur e (0, 0)) := hl g _ (by simp [PH.one])
    rw [add_own, cell_one hF, Nat.zero_add]
    rw [← h5, List.getElem?_take] at hj
    split at hj
    · simpa using hj
    · cases hj
theorem Row.one {r : PH} {e : TypeId} {sz : Nat} {v : Value} {xs : List Value} (h : Row r e sz v xs) : v.oneCell' = true := by
  rcases h with ⟨rfl, _⟩ | ⟨g, n, cap, cur, rfl, _⟩ <;> rfl

section
variable {P : Program} {n : Nat} {C : Cx} {k : List KItem} {S : St} {all : Array Oper} {o : Oper} {l : List Oper} {B : Base} {κ : St → Prop} {st : Bool}

/-- What is lent turned, and nothing else. -/
theorem Sat.swapR {w w' : World} (hw : Sat B S w) {r r' : PH} {Rf : List PH} (hp : S.R.Perm (r :: Rf)) (h1 : w'.os = w.os) (h2 : w'.tape = w.tape) (h3 : w'.output = w.output) (h4 : w.heap.size ≤ w'.heap.size)
    (h5 : ∀ b, b < w.heap.size → r b = none → w'.heap[b]? = w.heap[b]?) (h6 : r'.In w') (h7 : ∀ b, r' b ≠ none → r b ≠ none ∨ w.heap.size ≤ b) (L : KL) (nx : Nat) : Sat B ⟨L, S.M, S.F, r' :: Rf, nx⟩ w' := by
  have hr : r ∈ S.R := hp.mem_iff.2 List.mem_cons_self
  obtain ⟨k1, k2, k3⟩ := hw.r r hr
  have hX : ∀ b, (∃ x ∈ [r], x b ≠ none) ↔ r b ≠ none := fun b => by simp
  refine hw.behind (Rc := [r]) (R' := [r']) hp ⟨fun b u e => ?_, (fun _ h => nomatch h), List.Pairwise.nil, fun x hx => ?_, List.pairwise_singleton _ _, ⟨h1, h2, h3, h4, fun b hb hx => h5 b hb ?_⟩, PH.le_refl _, fun b hb => .inl hb⟩ L nx
  · have e : S.F b = some u := e
    rcases k2 b with e' | e'
    · rw [e'] at e; cases e
    · exact (h5 b (hw.f.lt e) e').trans (hw.f b u e)
  · obtain rfl := List.mem_singleton.1 hx
    refine ⟨h6, fun b => ?_, fun b hb => ?_⟩
    · cases e : x b with
      | none => exact .inr rfl
      | some u =>
        refine .inl ?_
        rcases h7 b (by rw [e]; exact fun h => nomatch h) with h | h
        · rcases k2 b with h' | h'
          · exact h'
          · exact absurd h' h
        · show S.F b = none
          cases e2 : S.F b with
          | none => rfl
          | some u => have := hw.f.lt e2; exact absurd h (by omega)
    · rcases h7 b hb with h | h
      · exact .inl ((hX b).2 h)
      · exact .inr h
  · cases e : r b with
    | none => rfl
    | some u => exact absurd ((hX b).2 (by rw [e]; exact fun h => nomatch h)) hx
/-- Something new is there to be lent. -/
theorem Sat.emp {w : World} (hw : Sat B S w) : Sat B { S with R := PH.emp :: S.R } w := by
  refine ⟨hw.f, fun o ho => ⟨(hw.m o ho).1, (hw.m o ho).2.1, fun r hr => ?_, (hw.m o ho).2.2.2⟩, hw.mm, fun r hr => ?_, List.pairwise_cons.2 ⟨fun _ _ _ => .inl rfl, hw.rr⟩, hw.late, hw.f0, hw.fnew⟩
  · rcases List.mem_cons.1 hr with rfl | hr
    · rfl
    · exact (hw.m o ho).2.2.1 r hr
  · rcases List.mem_cons.1 hr with rfl | hr
    · exact ⟨fun b u e => (nomatch e), fun _ => .inr rfl, fun b hb => absurd rfl hb⟩
    · exact hw.r r hr
theorem VC.emp (h : VC P n C k { S with R := PH.emp :: S.R }) : VC P n C k S := fun a w ha hw => h a w ha hw.emp
/-- What was lent never turns again. -/
theorem Sat.freezeR {w : World} (hw : Sat B S w) {r : PH} {Rf : List PH} (hp : S.R.Perm (r :: Rf)) (L : KL) (nx : Nat) : ∃ F', S.F.le F' ∧ r.le F' ∧ Sat B ⟨L, S.M, F', Rf, nx⟩ w := by
  have hr : r ∈ S.R := hp.mem_iff.2 List.mem_cons_self
  obtain ⟨k1, k2, k3⟩ := hw.r r hr
  have hpw := (hp.pairwise_iff (R := PH.Disj) (fun h b => (h b).symm)).1 hw.rr
  rw [List.pairwise_cons] at hpw
  have hsub : ∀ x ∈ Rf, x ∈ S.R := fun x hx => hp.mem_iff.2 (List.mem_cons_of_mem _ hx)
  have hl1 : S.F.le (fun b => (S.F b).orElse fun _ => r b) := fun b u e => by simp [e]
  have hl2 : r.le (fun b => (S.F b).orElse fun _ => r b) := fun b u e => by
    rcases k2 b with h | h
    · simp [h, e]
    · rw [h] at e; cases e
  have hno : ∀ b, S.F b = none → r b = none → ((S.F b).orElse fun _ => r b) = none := fun b h1 h2 => by simp [h1, h2]
  refine ⟨fun b => (S.F b).orElse fun _ => r b, hl1, hl2, fun b u e => ?_, fun o ho => ?_, hw.mm, fun x hx => ?_, hpw.2, hw.late, PH.le_trans hw.f0 hl1, fun b hb => ?_⟩
  · cases e1 : S.F b with
    | some v => have e : (S.F b).orElse (fun _ => r b) = some u := e; rw [e1] at e; cases e; exact hw.f b _ e1
    | none => have e : (S.F b).orElse (fun _ => r b) = some u := e; rw [e1] at e; exact k1 b u e
  · obtain ⟨m1, m2, m3, m4⟩ := hw.m o ho
    exact ⟨m1, hno _ m2 (m3 r hr), fun x hx => m3 x (hsub x hx), m4⟩
  · obtain ⟨x1, x2, x3⟩ := hw.r x (hsub x hx)
    refine ⟨x1, fun b => ?_, x3⟩
    rcases x2 b with h | h
    · rcases hpw.1 x hx b with h' | h'
      · exact .inl (hno b h h')
      · exact .inr h'
    · exact .inr h
  · cases e1 : S.F b with
    | some v => exact hw.fnew b (by rw [e1]; exact fun h => nomatch h)
    | none =>
      have hb : (S.F b).orElse (fun _ => r b) ≠ none := hb
      rw [e1] at hb
      exact .inr (k3 b hb)
theorem VC.freezeR {r : PH} {Rf : List PH} (hp : S.R.Perm (r :: Rf)) (h : ∀ F', S.F.le F' → r.le F' → VC P n C k { S with F := F', R := Rf }) : VC P n C k S := by
  intro a w ha hw
  obtain ⟨F', h1, h2, h3⟩ := hw.freezeR hp S.L S.nx
  exact h F' h1 h2 a w ha h3

theorem Row.owns {r : PH} {e : TypeId} {sz : Nat} {v : Value} {xs : List Value} {w : World} (h : Row r e sz v xs) (hr : r.In w) : ∃ m, w.ownsRow 0 e sz v m xs ∧ (∀ b, r b = none ↔ v.ownBlock ≠ some b) := by
  rcases h with ⟨rfl, rfl, hn⟩ | ⟨g, m, cap, cur, rfl, h1, rfl, h2, h3, h4, h5⟩
  · exact ⟨0, ⟨by simp, .inl ⟨rfl, rfl⟩⟩, fun b => by simp [hn b, Value.ownBlock]⟩
  · refine ⟨m, ⟨h1, .inr ⟨g, cap, cur, rfl, Nat.zero_le _, hr g _ (by simp [PH.one]), h2, h3, h4, h5⟩⟩, fun b => ?_⟩
    by_cases e : b = g
    · subst e; simp [PH.one, Value.ownBlock]
    · simp [PH.one, Value.ownBlock, e, Ne.symm e]
theorem owns_row {e : TypeId} {sz m : Nat} {v : Value} {xs : List Value} {w : World} (h : w.ownsRow 0 e sz v m xs) : ∃ r : PH, Row r e sz v xs ∧ r.In w ∧ ∀ b, r b = none ↔ v.ownBlock ≠ some b := by
  obtain ⟨h0, ⟨rfl, rfl⟩ | ⟨g, cap, cur, rfl, _, hh, h2, h3, h4, h5⟩⟩ := h
  · obtain rfl : xs = [] := List.eq_nil_of_length_eq_zero (by simpa using h0)
    exact ⟨PH.emp, Row.nil e sz, fun b u e => (nomatch e), fun b => by simp [PH.emp, Value.ownBlock]⟩
  · refine ⟨PH.one g (.cells cur e (0, 0)), .inr ⟨g, m, cap, cur, rfl, h0, rfl, h2, h3, h4, h5⟩, fun b u e => ?_, fun b => ?_⟩
    · by_cases e' : b = g
      · subst e'; simp [PH.one] at e; subst e; exact hh
      · simp [PH.one, e'] at e
    · by_cases e : b = g
      · subst e; simp [PH.one, Value.ownBlock]
      · simp [PH.one, Value.ownBlock, e, Ne.symm e]
theorem run_append_none {w : World} {t ty' e : TypeId} {D : TD} {v : Value} {m sz : Nat} {xs : List Value} (ht : P.underlying t = some (.slice e)) (hD : ty P e = some D) (hown : w.ownsRow 0 e sz v m xs) (c : Nat) :
    (Builtin.append_ #[t, t] ty' #[v, .slice none 0 c]).run P w = .ok v w := by
  obtain ⟨i, hi, _⟩ := ty_info (w := w) hD
  have hsz := ty_size (w := w) hD
  rcases hown.2 with ⟨rfl, rfl⟩ | ⟨g, cap, cur, rfl, _, _, hnc, _⟩
  · simp [Builtin.append_, run_underlying ht, hsz, Builtin.lenOf, Builtin.firstCells]
  · simp [Builtin.append_, run_underlying ht, hsz, Builtin.lenOf, Builtin.firstCells, hnc, storeCells]
theorem Eff.append {s x : Operand} {args : Array Operand} {tys : Array TypeId} {t e : TypeId} {D : TD} {u : TD} {v : Value} {xs ys : List Value} {p : Option Addr} {m c : Nat} {r : PH} {Rf : List PH}
    (ho : o.op = .call ⟨.builtin .append, args, tys⟩) (ha : args.toList = [s, x]) (htys : tys.toList = [t, t]) (ht : ty P t = some u) (hu : u.d = .slice e) (hD : ty P e = some D) (hz : D.size = D.zero.cells.size) (hpos : 0 < D.size)
    (hs : evo S.L s = some (.v v)) (hx : evo S.L x = some (.v (.slice p m c))) (hp : S.R.Perm (r :: Rf)) (hrow : Row r e D.size v xs) (hsrc : Src S.F p (m * D.size) ys) (h1 : ∀ u ∈ ys, u.oneCell' = true)
    (hb : xs.length + ys.length ≤ 1000000000) (hby : D.bytes ≤ 1000)
    (h : ∀ v' r', Row r' e D.size v' (xs ++ ys) → κ ⟨setk S.L o.dst (.v v'), S.M, S.F, r' :: Rf, S.nx⟩) : Eff P n B st o S κ := by
  refine Eff.value fun a w hka hkw => ?_
  have hr : r.In w := (hkw.r r (hp.mem_iff.2 List.mem_cons_self)).1
  obtain ⟨m0, hown, hblk⟩ := hrow.owns hr
  obtain rfl : args = #[s, x] := by cases args; simp at ha; simp [ha]
  obtain rfl : tys = #[t, t] := by cases tys; simp at htys; simp [htys]
  have hu' : P.underlying t = some (.slice e) := by rw [(ty_some ht).1, hu]
  obtain ⟨_, i, hi, hi1, hi2, hi3⟩ := ty_some hD
  have he : ∀ v' w', (Builtin.append_ #[t, t] o.type #[v, .slice p m c]).run P w = .ok v' w' → (execOp a.eval o).run P w = .ok (.value v') w' := by
    intro v' w' hrun
    obtain ⟨dst, op, type, pos, after, guard⟩ := o
    subst ho
    simp only [execOp, resolve, invoke, builtin, Sem.run_bind, Sem.run_pure, Result.andThen_ok, List.map_toArray, List.map_cons, List.map_nil, hka.eval hs, hka.eval hx, AV.val_v, hrun]
  have hxs := hown.1
  have hle : m0 + m ≤ xs.length + ys.length := by
    rw [hxs, hsrc.1]
    have := Nat.mul_le_mul_left m0 hpos
    have := Nat.mul_le_mul_left m hpos
    omega
  have key : ∃ v' w', (Builtin.append_ #[t, t] o.type #[v, .slice p m c]).run P w = .ok v' w' ∧ w'.ownsRow 0 e D.size v' (m0 + m) (xs ++ ys) ∧ w.grownBy w' v.ownBlock ∧ (v'.ownBlock = v.ownBlock ∨ v'.ownBlock = some w.heap.size) := by
    cases p with
    | none =>
      have hm : m = 0 := by
        rcases Nat.eq_zero_or_pos m with h0 | h0
        · exact h0
        · obtain ⟨a, h1, _⟩ := hsrc.2 (Nat.mul_pos h0 hpos)
          cases h1
      subst hm
      obtain rfl : ys = [] := List.eq_nil_of_length_eq_zero (by simpa using hsrc.1)
      exact ⟨v, w, by
        have := run_append_none (w := w) (ty' := o.type) hu' hD hown c
        exact this, by simpa using hown, World.grownBy.refl w _, .inl rfl⟩
    | some ad =>
      have hcells : ∀ j u, ys[j]? = some u → w.cell? (ad.add j) = some u := by
        intro j u hj
        have hlt : j < ys.length := by
          rcases Nat.lt_or_ge j ys.length with h' | h'
          · exact h'
          · rw [List.getElem?_eq_none h'] at hj; cases hj
        obtain ⟨ad', h1, h2⟩ := hsrc.2 (by rw [← hsrc.1]; omega)
        cases h1
        exact hkw.f.cell ((PH.cells_get h2).2 j u hj)
      obtain ⟨v', w', g1, g2, g3, _, g5⟩ := run_append_own_at (P := P) w 0 t o.type e i D.zero D.size D.bytes hu' hi hi3 hi1 hi2 hz.symm hpos v m0 xs hown ad m c ys hsrc.1 hcells h1 (by unfold maxLen; omega) (by
        have := Nat.mul_le_mul (show m0 + m ≤ 1000000000 by omega) hby
        omega) (Nat.zero_le _)
      exact ⟨v', w', g1, g2, g3, g5⟩
  obtain ⟨v', w', g1, g2, g3, g4⟩ := key
  obtain ⟨r', hrow', hr', hblk'⟩ := owns_row g2
  refine ⟨.v v', w', S.M, S.F, r' :: Rf, S.nx, ?_, ?_, Stab.refl _ _ _ _, h v' r' hrow'⟩
  · exact he _ _ g1
  · refine hkw.swapR hp g3.os g3.tape g3.output g3.size (fun b hb hn => g3.block b hb (fun e => (hblk b).1 hn e.symm)) hr' (fun b hb => ?_) _ _
    have hb' : v'.ownBlock = some b := Classical.byContradiction fun hc => hb ((hblk' b).2 hc)
    rcases g4 with g4 | g4
    · exact .inl fun hc => (hblk b).1 hc (by rw [← g4]; exact hb')
    · rw [hb'] at g4
      cases g4
      exact .inr (Nat.le_refl _)
end
end Go.Eng

/- The engine, part 11: from a contract to what a row asks. -/
namespace Go.Eng
open Go Go.RowKit
/-- All that is there, taken for what never turns. -/
def whole (w : World) : PH := fun b => w.heap[b]?
theorem PFn.calls {P : Program} {f : FuncId} {args : List Value} {w : World} {r : Value} (h : PFn P f args (whole w) (fun v _ => v = r)) : Calls P f args.toArray w (fun e w' => e = .returned r ∧ Below w.heap.size w w') := by
  refine (h.2 w ⟨fun b o e => e, (fun _ h => nomatch h), List.Pairwise.nil⟩).mono ?_
  rintro e w' ⟨v, F', R', rfl, ⟨_, rfl⟩, hs⟩
  exact ⟨rfl, hs.late.below fun b ⟨r, hr, _⟩ => nomatch hr⟩
end Go.Eng
namespace Go.Eng
open Go.Joins Go.ChangeShapes Go.WideShapes Go.RowKit Go.Deep
section
variable {H : Type} {enc : TypeId × Value → H} {P : Program} {w : World} {base : Nat} {spare : Nat → Bool} {held : Bool}
end
end Go.Eng

/- The engine, part 12: loops that leave all but some slots (and what never turns) as they are. -/
namespace Go.Eng
open Go Go.RowKit
section
variable {P : Program} {n : Nat} {C : Cx} {k : List KItem} {S : St}
theorem VC.loopL {ι : Type} {c : Code} (L : ι → KL) (I : ι → Prop) (μ : ι → Nat) (i0 : ι) (h0 : I i0) (hs : subk S.L (L i0))
    (round : ∀ i, I i → ∀ G : St → Prop, (∀ j S', I j → μ j < μ i → subk S'.L (L j) → S.M.Sublist S'.M → S'.F = S.F → S'.R = S.R → G S') → VC P n C (.code c :: .done G :: k) ⟨L i, S.M, S.F, S.R, S.nx⟩) : VC P n C (.code (.loop c) :: k) S :=
  VC.loop (fun i => ⟨L i, S.M, S.F, S.R, S.nx⟩) I μ i0 h0 ⟨subk_le hs, List.Sublist.refl _, rfl, List.Sublist.refl _⟩ fun i hi G hG =>
    round i hi G fun j S' h1 h2 h3 h4 h5 h6 => hG j S' h1 h2 ⟨subk_le h3, h4, h5.symm, by rw [h6]; exact List.Sublist.refl _⟩
theorem VC.loopF {ι : Type} {c : Code} (L : ι → KL) (F : ι → PH) (I : ι → Prop) (μ : ι → Nat) (i0 : ι) (h0 : I i0) (hs : subk S.L (L i0)) (hF : F i0 = S.F)
    (round : ∀ i, I i → ∀ G : St → Prop, (∀ j S', I j → μ j < μ i → subk S'.L (L j) → S.M.Sublist S'.M → S'.F = F j → S'.R = S.R → G S') → VC P n C (.code c :: .done G :: k) ⟨L i, S.M, F i, S.R, S.nx⟩) : VC P n C (.code (.loop c) :: k) S :=
  VC.loop (fun i => ⟨L i, S.M, F i, S.R, S.nx⟩) I μ i0 h0 ⟨subk_le hs, List.Sublist.refl _, hF, List.Sublist.refl _⟩ fun i hi G hG =>
    round i hi G fun j S' h1 h2 h3 h4 h5 h6 => hG j S' h1 h2 ⟨subk_le h3, h4, h5.symm, by rw [h6]; exact List.Sublist.refl _⟩
/-- The same with one row that is lent. -/
theorem VC.loopR {ι : Type} {c : Code} (L : ι → KL) (F r : ι → PH) (Rf : List PH) (I : ι → Prop) (μ : ι → Nat) (i0 : ι) (h0 : I i0) (hs : subk S.L (L i0)) (hF : F i0 = S.F) (hR : S.R = r i0 :: Rf)
    (round : ∀ i, I i → ∀ G : St → Prop, (∀ j S', I j → μ j < μ i → subk S'.L (L j) → S.M.Sublist S'.M → S'.F = F j → S'.R = r j :: Rf → G S') → VC P n C (.code c :: .done G :: k) ⟨L i, S.M, F i, r i :: Rf, S.nx⟩) : VC P n C (.code (.loop c) :: k) S :=
  VC.loop (fun i => ⟨L i, S.M, F i, r i :: Rf, S.nx⟩) I μ i0 h0 ⟨subk_le hs, List.Sublist.refl _, hF, by rw [hR]; exact List.Sublist.refl _⟩ fun i hi G hG =>
    round i hi G fun j S' h1 h2 h3 h4 h5 h6 => hG j S' h1 h2 ⟨subk_le h3, h4, h5.symm, by rw [h6]; exact List.Sublist.refl _⟩
/-- The same with rows that are lent. -/
theorem VC.loopG {ι : Type} {c : Code} (L : ι → KL) (F : ι → PH) (R : ι → List PH) (I : ι → Prop) (μ : ι → Nat) (i0 : ι) (h0 : I i0) (hs : subk S.L (L i0)) (hF : F i0 = S.F) (hR : (R i0).Sublist S.R)
    (round : ∀ i, I i → ∀ G : St → Prop, (∀ j S', I j → μ j < μ i → subk S'.L (L j) → S.M.Sublist S'.M → S'.F = F j → (R j).Sublist S'.R → G S') → VC P n C (.code c :: .done G :: k) ⟨L i, S.M, F i, R i, S.nx⟩) : VC P n C (.code (.loop c) :: k) S :=
  VC.loop (fun i => ⟨L i, S.M, F i, R i, S.nx⟩) I μ i0 h0 ⟨subk_le hs, List.Sublist.refl _, hF, hR⟩ fun i hi G hG =>
    round i hi G fun j S' h1 h2 h3 h4 h5 h6 => hG j S' h1 h2 ⟨subk_le h3, h4, h5.symm, h6⟩
/-- A cut behind a piece of code: what it comes to. -/
theorem VC.cutG {ι : Type} {c : Code} (L : ι → KL) (F : ι → PH) (R : ι → List PH) (I : ι → Prop) (hx : ∀ G : St → Prop, (∀ j S', I j → subk S'.L (L j) → S.M.Sublist S'.M → S'.F = F j → (R j).Sublist S'.R → G S') → VC P n C (.code c :: .done G :: k) S)
    (hk : ∀ i, I i → VC P n C k ⟨L i, S.M, F i, R i, S.nx⟩) : VC P n C (.code c :: k) S :=
  VC.cut (fun i => ⟨L i, S.M, F i, R i, S.nx⟩) I (fun G hG => hx G fun j S' h1 h3 h4 h5 h6 => hG j S' h1 ⟨subk_le h3, h4, h5.symm, h6⟩) hk
end
end Go.Eng

/- The engine, part 13: rows that are handed back; what is lent to be read; slots by their values. -/
namespace Go.Eng
open Go Go.RowKit
set_option linter.unusedSimpArgs false
set_option linter.unusedVariables false
def PH.or (F r : PH) : PH := fun b => (F b).orElse fun _ => r b
theorem PH.or_left (F r : PH) : F.le (F.or r) := fun b u e => by simp [PH.or, e]
theorem PH.or_right {F r : PH} (h : F.Disj r) : r.le (F.or r) := fun b u e => by
  rcases h b with h | h
  · simp [PH.or, h, e]
  · rw [h] at e; cases e
theorem PH.or_none {F r : PH} {b : Nat} (h1 : F b = none) (h2 : r b = none) : F.or r b = none := by simp [PH.or, h1, h2]
theorem PH.or_some {F r : PH} {b : Nat} (h : F.or r b ≠ none) : F b ≠ none ∨ r b ≠ none := by
  cases e : F b with
  | some u => exact .inl (fun h => nomatch h)
  | none =>
    cases e2 : r b with
    | some u => exact .inr (fun h => nomatch h)
    | none => exact absurd (PH.or_none e e2) h
theorem PH.or_in {F r : PH} {w : World} (h1 : F.In w) (h2 : r.In w) : (F.or r).In w := fun b u e => by
  cases e1 : F b with
  | some v => simp [PH.or, e1] at e; subst e; exact h1 b _ e1
  | none => simp [PH.or, e1] at e; exact h2 b u e
/-- What is lent to be read, and comes back as it was. -/
theorem Fn.lend {P : Program} {f : FuncId} {args : List Value} {F r : PH} {R : List PH} {Q : Value → PH → List PH → Prop} {Q' : Value → List PH → Prop} (h : F.Disj r → Fn P f args (F.or r) R Q) (hc : CallOk P f) (hq : ∀ v F' R', Q v F' R' → Q' v R') : Fn P f args F (r :: R) (fun v F' R' => ∃ R1, R' = r :: R1 ∧ Q' v R1) := by
  refine ⟨hc, fun w hw => ?_⟩
  obtain ⟨hr1, hr2⟩ := hw.r r List.mem_cons_self
  have hrr := List.pairwise_cons.1 hw.rr
  have h0 : In0 w (F.or r) R := ⟨PH.or_in hw.f hr1, fun x hx => ⟨(hw.r x (List.mem_cons_of_mem _ hx)).1, fun b => by
    rcases (hw.r x (List.mem_cons_of_mem _ hx)).2 b with k1 | k1
    · rcases hrr.1 x hx b with k2 | k2
      · exact .inl (PH.or_none k1 k2)
      · exact .inr k2
    · exact .inr k1⟩, hrr.2⟩
  refine ((h hr2).2 w h0).mono ?_
  rintro e w' ⟨v, F', R', rfl, q, hs⟩
  have hrF : r.le F' := PH.le_trans (PH.or_right hr2) hs.f0
  have hX : ∀ b, (∃ x ∈ R, x b ≠ none) → ∃ x ∈ r :: R, x b ≠ none := fun b ⟨x, h1, h2⟩ => ⟨x, List.mem_cons_of_mem _ h1, h2⟩
  refine ⟨v, fun b => if r b = none then F' b else none, r :: R', rfl, ⟨R', rfl, hq _ _ _ q⟩, ?_⟩
  refine ⟨fun b u e => ?_, (fun _ h => nomatch h), List.Pairwise.nil, fun x hx => ?_, ?_, ⟨hs.late.os, hs.late.tape, hs.late.output, hs.late.size, fun k hk hx => hs.late.block k hk fun hx' => hx (hX k hx')⟩, fun b u e => ?_, fun b hb => ?_⟩
  · have e : (if r b = none then F' b else none) = some u := e
    split at e
    · exact hs.f b u e
    · cases e
  · rcases List.mem_cons.1 hx with rfl | hx
    · refine ⟨fun b u e => hs.f b u (hrF b u e), fun b => ?_, fun b hb => .inl ⟨x, List.mem_cons_self, hb⟩⟩
      by_cases e : x b = none
      · exact .inr e
      · exact .inl (if_neg e)
    · obtain ⟨x1, x2, x3⟩ := hs.r x hx
      refine ⟨x1, fun b => ?_, fun b hb => ?_⟩
      · rcases x2 b with h | h
        · refine .inl ?_
          show (if r b = none then F' b else none) = none
          split
          · exact h
          · rfl
        · exact .inr h
      · rcases x3 b hb with h | h
        · exact .inl (hX b h)
        · exact .inr h
  · refine List.pairwise_cons.2 ⟨fun x hx b => ?_, hs.rr⟩
    obtain ⟨x1, x2, x3⟩ := hs.r x hx
    cases e : r b with
    | none => exact .inl rfl
    | some u =>
      rcases x2 b with h | h
      · have h' : F' b = none := h
        rw [hrF b u e] at h'; cases h'
      · exact .inr h
  · have hn : r b = none := by
      rcases hr2 b with h | h
      · have e : F b = some u := e
        rw [h] at e; cases e
      · exact h
    show (if r b = none then F' b else none) = some u
    rw [if_pos hn]
    exact hs.f0 b u (PH.or_left F r b u e)
  · have hb' : (if r b = none then F' b else none) ≠ none := hb
    split at hb'
    · rename_i hn
      rcases hs.fnew b hb' with h | h | h
      · rcases PH.or_some h with h | h
        · exact .inl h
        · exact absurd hn h
      · exact .inr (.inl (hX b h))
      · exact .inr (.inr h)
    · exact absurd rfl hb'
/-- What was handed back never turns again. -/
theorem Fn.frozen {P : Program} {f : FuncId} {args : List Value} {F : PH} {R : List PH} {Q : Value → PH → List PH → Prop} {Q' : Value → PH → List PH → Prop} (h : Fn P f args F R Q) (hq : ∀ v F' R', Q v F' R' → ∃ r Rf, R'.Perm (r :: Rf) ∧ ∀ F'', F'.le F'' → r.le F'' → Q' v F'' Rf) : Fn P f args F R Q' :=
  ⟨h.1, fun w hw => (h.2 w hw).mono fun _ _ ⟨v, F', R', e, q, s⟩ => by
    obtain ⟨r, Rf, hp, h2⟩ := hq _ _ _ q
    obtain ⟨F'', k1, k2, k3⟩ := s.freezeR hp [] 0
    exact ⟨v, F'', Rf, e, h2 F'' k1 k2, k3⟩⟩
/-- A function that hands back a row of its own. -/
def RowFn (P : Program) (f : FuncId) (args : List Value) (F : PH) (e : TypeId) (sz : Nat) (xs : List Value) : Prop := Fn P f args F [] (fun v F' R' => ∃ r, R' = [r] ∧ Row r e sz v xs)
theorem RowFn.sl {P : Program} {f : FuncId} {args : List Value} {F : PH} {e : TypeId} {sz : Nat} {xs : List Value} (h : RowFn P f args F e sz xs) : PFn P f args F (fun v F' => ∃ n, xs.length = n * sz ∧ Sl F' sz v n xs) :=
  Fn.frozen h fun v F' R' ⟨r, h1, h2⟩ => ⟨r, [], by rw [h1], fun F'' k1 k2 => ⟨rfl, h2.sl k2⟩⟩
section
variable {P : Program} {n : Nat} {C : Cx} {k : List KItem} {S : St} {κ : St → Prop} {f : FuncId} {args : List Value} {d : Option Tmp} {e : TypeId} {sz : Nat} {xs : List Value} {st : Bool}
theorem CallV.row (hc : RowFn P f args S.F e sz xs) (next : ∀ v F' r, S.F.le F' → Row r e sz v xs → κ ⟨setk S.L d (.v v), S.M, F', r :: S.R, S.nx⟩) : CallV P st f args d κ S :=
  .mk ⟨_, [], S.R, hc, by simp, fun v F' R' h1 ⟨r, h2, h3⟩ => by subst h2; exact next v F' r h1 h3⟩
theorem CallV.sl (hc : RowFn P f args S.F e sz xs) (next : ∀ v F' n, S.F.le F' → xs.length = n * sz → Sl F' sz v n xs → κ ⟨setk S.L d (.v v), S.M, F', S.R, S.nx⟩) : CallV P st f args d κ S :=
  CallV.pure hc.sl fun v F' h1 ⟨n, h2, h3⟩ => next v F' n h1 h2 h3
/-- A row of the walk's own is lent to be read. -/
theorem CallV.lendSl {r : PH} {Rf : List PH} (hR : S.R.Perm (r :: Rf)) (ok : CallOk P f) (hc : S.F.Disj r → RowFn P f args (S.F.or r) e sz xs) (next : ∀ v F' n, S.F.le F' → xs.length = n * sz → Sl F' sz v n xs → κ ⟨setk S.L d (.v v), S.M, F', r :: Rf, S.nx⟩) : CallV P st f args d κ S := by
  have h1 := Fn.lend (Q' := fun v R1 => ∃ r, R1 = [r] ∧ Row r e sz v xs) hc ok (fun v F' R' h => h)
  have h2 := Fn.frozen (Q' := fun v F' R' => R' = [r] ∧ ∃ n, xs.length = n * sz ∧ Sl F' sz v n xs) h1 (fun v F' R' ⟨R1, e1, r1, e2, h3⟩ => ⟨r1, [r], by subst e2 e1; exact .swap _ _ _, fun F'' _ k2 => ⟨rfl, h3.sl k2⟩⟩)
  exact .mk ⟨_, [r], Rf, h2, hR, fun v F' R' k1 ⟨e1, m, k2, k3⟩ => by subst e1; exact next v F' m k1 k2 k3⟩
/-- Two rows of the walk's own are lent to be read; what comes back is a row. -/
theorem CallV.lend2 {r r2 : PH} {Rf : List PH} (hR : S.R.Perm (r :: r2 :: Rf)) (ok : CallOk P f) (hc : S.F.Disj r → (S.F.or r).Disj r2 → RowFn P f args ((S.F.or r).or r2) e sz xs) (next : ∀ v F' r', S.F.le F' → Row r' e sz v xs → κ ⟨setk S.L d (.v v), S.M, F', r :: r2 :: r' :: Rf, S.nx⟩) : CallV P st f args d κ S := by
  have h1 : S.F.Disj r → Fn P f args (S.F.or r) [r2] (fun v F' R' => ∃ R1, R' = r2 :: R1 ∧ ∃ r', R1 = [r'] ∧ Row r' e sz v xs) := fun hd => Fn.lend (Q' := fun v R1 => ∃ r', R1 = [r'] ∧ Row r' e sz v xs) (hc hd) ok (fun v F' R' h => h)
  have h2 := Fn.lend (Q' := fun v R1 => ∃ r', R1 = [r2, r'] ∧ Row r' e sz v xs) h1 ok (fun v F' R' ⟨R1, e1, r', e2, h⟩ => ⟨r', by rw [e1, e2], h⟩)
  exact .mk ⟨_, [r, r2], Rf, h2, hR, fun v F' R' k1 ⟨R1, e1, r', e2, h⟩ => by subst e2 e1; exact next v F' r' k1 h⟩
theorem Row.val {r : PH} {v : Value} (h : Row r e sz v xs) : ∃ p n c, v = .slice p n c := by
  rcases h with ⟨rfl, _⟩ | ⟨g, n, cap, cur, rfl, _⟩ <;> exact ⟨_, _, _, rfl⟩
theorem Row.begin (b : Nat) (e : TypeId) (sz : Nat) : Row (PH.one b (.cells #[] e (0, 0))) e sz (.slice (some ⟨b, 0, none⟩) 0 0) [] := .inr ⟨b, 0, 0, #[], rfl, by simp, rfl, Nat.le_refl _, Nat.zero_le _, by simp, by simp⟩
/-- Slots that are told by their values. -/
def subv (L : KL) : KL → Prop
  | [] => True
  | (d, x) :: L' => (match look L d with
    | some y => y.val = x.val
    | none => False) ∧ subv L L'
theorem subv_look {L : KL} : ∀ {L' : KL}, subv L L' → ∀ d x, look L' d = some x → ∃ y, look L d = some y ∧ y.val = x.val
  | [], _, d, x, e => by cases e
  | (d', x') :: L', h, d, x, e => by
    simp only [look] at e
    split at e
    · rename_i hd
      cases e
      obtain ⟨h1, _⟩ := h
      split at h1
      · rename_i y hy; exact ⟨y, by rw [← hd]; exact hy, h1⟩
      · exact h1.elim
    · exact subv_look h.2 d x e
theorem VC.reL (L' : KL) (hl : subv S.L L') (h : VC P n C k { S with L := L' }) : VC P n C k S := by
  intro a w ha hw
  refine h a w ⟨ha.1, ha.2.1, fun d x hx => ?_⟩ (hw.setL _ _)
  obtain ⟨y, h1, h2⟩ := subv_look hl d x hx
  obtain ⟨k1, k2⟩ := ha.2.2 d y h1
  exact ⟨k1, k2.trans h2⟩
/-- Loops and cuts, what is lent in any order. -/
def subR (A B : List PH) : Prop := ∃ l : List PH, l.Sublist B ∧ l.Perm A
theorem subR_refl (A : List PH) : subR A A := ⟨A, List.Sublist.refl _, .refl _⟩
theorem subR_perm {A B : List PH} (h : B.Perm A) : subR A B := ⟨B, List.Sublist.refl _, h⟩
theorem subR_cons {A B : List PH} {r : PH} (h : subR A B) : subR A (r :: B) := let ⟨l, h1, h2⟩ := h; ⟨l, .cons _ h1, h2⟩
theorem VC.loopP {ι : Type} {c : Code} (L : ι → KL) (F : ι → PH) (R : ι → List PH) (I : ι → Prop) (μ : ι → Nat) (i0 : ι) (h0 : I i0) (hs : subk S.L (L i0)) (hF : F i0 = S.F) (hR : subR (R i0) S.R)
    (round : ∀ i, I i → ∀ G : St → Prop, (∀ j S', I j → μ j < μ i → subk S'.L (L j) → S.M.Sublist S'.M → S'.F = F j → subR (R j) S'.R → G S') → VC P n C (.code c :: .done G :: k) ⟨L i, S.M, F i, R i, S.nx⟩) : VC P n C (.code (.loop c) :: k) S := by
  obtain ⟨R0, hR1, hR2⟩ := hR
  refine VC.loop (fun i : ι × List PH => ⟨L i.1, S.M, F i.1, i.2, S.nx⟩) (fun i => I i.1 ∧ i.2.Perm (R i.1)) (fun i => μ i.1) (i0, R0) ⟨h0, hR2⟩ ⟨subk_le hs, List.Sublist.refl _, hF, hR1⟩ ?_
  rintro ⟨i, Ri⟩ ⟨hi, hp⟩ G hG
  refine VC.permR hp (round i hi G fun j S' h1 h2 h3 h4 h5 ⟨l, h6, h7⟩ => ?_)
  exact hG (j, l) S' ⟨h1, h7⟩ h2 ⟨subk_le h3, h4, h5.symm, h6⟩
theorem VC.cutP {ι : Type} {c : Code} (L : ι → KL) (F : ι → PH) (R : ι → List PH) (I : ι → Prop) (hx : ∀ G : St → Prop, (∀ j S', I j → subk S'.L (L j) → S.M.Sublist S'.M → S'.F = F j → subR (R j) S'.R → G S') → VC P n C (.code c :: .done G :: k) S)
    (hk : ∀ i, I i → VC P n C k ⟨L i, S.M, F i, R i, S.nx⟩) : VC P n C (.code c :: k) S :=
  VC.cut (fun i : ι × List PH => ⟨L i.1, S.M, F i.1, i.2, S.nx⟩) (fun i => I i.1 ∧ i.2.Perm (R i.1)) (fun G hG => hx G fun j S' h1 h3 h4 h5 ⟨l, h6, h7⟩ => hG (j, l) S' ⟨h1, h7⟩ ⟨subk_le h3, h4, h5.symm, h6⟩) fun ⟨i, Ri⟩ ⟨hi, hp⟩ => VC.permR hp (hk i hi)
end
end Go.Eng
