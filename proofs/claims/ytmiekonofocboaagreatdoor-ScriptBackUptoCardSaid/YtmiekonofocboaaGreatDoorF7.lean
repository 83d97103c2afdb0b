/- The evaluator, part 7: operations that turn memory: new blocks, stores, what is built. -/
import Derived.Test.YtmiekonofocboaaGreatDoorF6
import Derived.CallsIn
import Derived.TacticsIn
import Derived.OrdersIn
set_option linter.unusedVariables false
set_option linter.unusedSectionVars false
set_option linter.unusedSimpArgs false
namespace Go.AM
open Go Go.RowKit Go.Eng

/-- The fence of all functions, in a round or not. -/
def WF (ro : Option Nat) : Fence := { Fence.wide with round := ro }
abbrev Outs := List (X × Hp × Nat)
def Ext (U : Nat → Prop) (i nx nx' : Nat) : Nat → Prop := fun id => U id ∨ id = i ∨ (nx ≤ id ∧ id < nx')
/-- An operation comes to one of these. -/
def EffOk (P : Program) (ro : Option Nat) (B : World) (e : Env) (U : Nat → Prop) (i nx : Nat) (o : Oper) (a : Act) (w : World) (outs : Outs) : Prop :=
  ∀ (K : Act → World → Prop) (Q : Exit → Act → World → Prop),
    (∀ y hp' nx' e' v w', (y, hp', nx') ∈ outs → e.le e' → den e' y = some v → Fit B e' hp' (Ext U i nx nx') w' → K (a.put o.dst v) w') → o.wpIn (WF ro) 0 P a w K Q
section
variable {P : Program} {ro : Option Nat} {B : World} {e : Env} {U : Nat → Prop} {i nx : Nat} {o : Oper} {a : Act} {w : World} {hp : Hp} {fr : Tr X} {dm : List DM} {n : Nat} {τ : Ty}
theorem wpIn_value (hd : ∀ c, o.op ≠ .defer c) {v : Value} {w' : World} {K : Act → World → Prop} {Q : Exit → Act → World → Prop} (h : (execOp a.eval o).run P w = .ok (.value v) w') (hK : K (a.put o.dst v) w') : o.wpIn (WF ro) 0 P a w K Q := by
  refine ⟨fun _ _ => trivial, ?_⟩
  rw [Oper.semAt_eq _ _ _ hd, h, Oper.uponIn_value]
  exact hK
theorem wpIn_skipv (hd : ∀ c, o.op ≠ .defer c) {w' : World} {K : Act → World → Prop} {Q : Exit → Act → World → Prop} (h : (execOp a.eval o).run P w = .ok .skip w') (hK : K (a.put o.dst undef) w') : o.wpIn (WF ro) 0 P a w K Q := by
  refine ⟨fun _ _ => trivial, ?_⟩
  rw [Oper.semAt_eq _ _ _ hd, h, Oper.uponIn_skip]
  exact hK
theorem EffOk.value {outs : Outs} (hd : ∀ c, o.op ≠ .defer c) (h : ∃ y hp' nx' v w' e', (y, hp', nx') ∈ outs ∧ (execOp a.eval o).run P w = .ok (.value v) w' ∧ e.le e' ∧ den e' y = some v ∧ Fit B e' hp' (Ext U i nx nx') w') : EffOk P ro B e U i nx o a w outs := by
  obtain ⟨y, hp', nx', v, w', e', h1, h2, h3, h4, h5⟩ := h
  exact fun K Q hK => wpIn_value hd h2 (hK y hp' nx' e' v w' h1 h3 h4 h5)
def undX : X := .tup .nl
theorem undX_den (e : Env) : den e undX = some undef := rfl
theorem EffOk.skip {outs : Outs} (hd : ∀ c, o.op ≠ .defer c) (h : ∃ hp' nx' w' e', (undX, hp', nx') ∈ outs ∧ (execOp a.eval o).run P w = .ok .skip w' ∧ e.le e' ∧ Fit B e' hp' (Ext U i nx nx') w') : EffOk P ro B e U i nx o a w outs := by
  obtain ⟨hp', nx', w', e', h1, h2, h3, h5⟩ := h
  exact fun K Q hK => wpIn_skipv hd h2 (hK undX hp' nx' e' undef w' h1 h3 (undX_den e') h5)
def outc (y : X) (nx : Nat) : Option Hp → Option Outs
  | some h => some [(y, h, nx)]
  | none => none
theorem outc_some {y : X} {nx : Nat} {h : Option Hp} {outs : Outs} (ho : outc y nx h = some outs) : ∃ hp', h = some hp' ∧ (y, hp', nx) ∈ outs := by
  cases h with
  | none => cases ho
  | some hp' => cases ho; exact ⟨hp', rfl, List.mem_cons_self⟩
/-- Cells of a value. -/
def cellsX : X → X
  | .agg l => l
  | y => .cs y .nl
theorem den_v {k : Nat} {v : Value} (h : den e (.v k) = some v) : v.oneCell' = true := by
  simp only [den] at h
  split at h
  · split at h
    · rename_i h1; cases h; exact h1
    · cases h
  · cases h
theorem cellsX_den {y : X} {v : Value} (h : den e y = some v) : denL e (cellsX y) = some v.cells.toList := by
  cases y <;> simp only [cellsX] <;> first
    | (obtain ⟨vs, h1, rfl⟩ := den_agg h; simp only [h1, Value.cells])
    | (have hc : v.cells = #[v] := by
         cases v <;> first
           | rfl
           | (exfalso; simp only [den] at h; (repeat' split at h) <;> cases h; done)
       simp only [denL, h, hc])
    | simp only [denL, h, cells_one (den_v h)]
/-- A block of some cells. -/
def newB (t : TypeId) (sz : Nat) (l : X) : Blk := .c t sz (xlen l) l (xlen l) .lf
theorem objC {b : Nat} {w : World} {t : TypeId} {sz k : Nat} {zz : X} {zn : Nat} {tr : Tr X} {vs : List Value} (h : CellsAre e (k * sz) zz zn tr vs) : IsObj e w ⟨b, 0, k, sz, none, undef⟩ (.c t sz (k * sz) zz zn tr) (.cells vs.toArray t) :=
  ⟨rfl, [], vs, [], (0, 0), by simp, .inl rfl, rfl, h, by simp [h.1], .inl (Nat.le_refl _)⟩
theorem newB_obj {l : X} {cs : List Value} (hl : denL e l = some cs) (t : TypeId) (b : Nat) (w : World) : IsObj e w ⟨b, 0, 0, 0, none, undef⟩ (newB t 0 l) (.cells cs.toArray t) := by
  refine ⟨rfl, [], cs, [], (0, 0), by simp, .inl rfl, rfl, ?_, by simp, .inr rfl⟩
  rw [xlen_den hl]
  exact .mk hl
/-- A new block, in the end. -/
theorem EffOk.fresh {outs : Outs} (hd : ∀ c, o.op ≠ .defer c) (hf : Fit B e hp U w) (hi : ¬ U i) {y : X} {bl : Blk} {ob : Obj} {z : EE} {v : Value} {w' : World} (hz : z.b = w.heap.size) (hr : (execOp a.eval o).run P w = .ok (.value v) w') (hs : Step w w' none) (hh : w'.heap[w.heap.size]? = some ob)
    (ho : IsObj (e.add i z) w' z bl ob) (hy : den (e.add i z) y = some v) (h : outc y nx (put 40 hp i (some bl)) = some outs) : EffOk P ro B e U i nx o a w outs := by
  obtain ⟨hp', h1, h2⟩ := outc_some h
  refine .value hd ⟨y, hp', nx, v, w', e.add i z, h2, hr, Env.le_add (hf.nix hi), hy, ?_⟩
  refine (hf.alloc hi hs (by omega) (by rw [hz]; exact hh) ho h1).used fun id h => ?_
  rcases h with h | h
  · exact .inl h
  · exact .inr (.inl h)
def aAlloc (τ : Ty) (hp : Hp) (i nx : Nat) (t : TypeId) : Option Outs :=
  match find τ t with
  | some D => (match xof D.zero with
    | some y => outc (.p i 0) nx (put 40 hp i (some (newB t 0 (cellsX y))))
    | none => none)
  | none => none
theorem aAlloc_ok (hτ : TyOk P τ) (hf : Fit B e hp U w) (hi : ¬ U i) {t : TypeId} (ho : o.op = .alloc t) {outs : Outs} (h : aAlloc τ hp i nx t = some outs) : EffOk P ro B e U i nx o a w outs := by
  unfold aAlloc at h
  split at h
  · rename_i D hD
    split at h
    · rename_i y hy
      have hy' := xof_den hy (e.add i ⟨w.heap.size, 0, 0, 0, none, undef⟩)
      refine .fresh (by rw [ho]; simp) hf hi (z := ⟨w.heap.size, 0, 0, 0, none, undef⟩) (v := .pointer (some ⟨w.heap.size, 0, none⟩)) (w' := w.alloc (.cells D.zero.cells.toList.toArray t)) rfl ?_ (step_alloc _ _) (alloc_new _ _) (newB_obj (cellsX_den hy') t _ _) (by simp only [den, Env.add_self]) h
      obtain ⟨dst, op, type, pos, after, guard⟩ := o
      subst ho
      have e1 : execOp a.eval ⟨dst, .alloc t, type, pos, after, guard⟩ = (do pure (.value (← Instr.alloc t true (.tuple #[])))) := rfl
      rw [e1]
      simp only [Instr.alloc, Sem.run_bind, ty_zero (hτ _ _ hD), Result.andThen_ok]
      simp only [newVar, newRow, newObj, Array.toArray_toList]
      rfl
    · cases h
  · cases h
def aBox (fr : Tr X) (hp : Hp) (i nx : Nat) (t : TypeId) (x : Operand) : Option Outs :=
  match ev fr x with
  | some y => outc (.p i 0) nx (put 40 hp i (some (newB t 0 (cellsX y))))
  | none => none
theorem aBox_ok (hk : KnX e n fr dm a) (hf : Fit B e hp U w) (hi : ¬ U i) {t : TypeId} {x : Operand} (ho : o.op = .box t x) {outs : Outs} (h : aBox fr hp i nx t x = some outs) : EffOk P ro B e U i nx o a w outs := by
  unfold aBox at h
  split at h
  · rename_i y hy
    obtain ⟨v, h1, h2⟩ := ev_run hk hy
    have hy' := denM (Env.le_add (z := ⟨w.heap.size, 0, 0, 0, none, undef⟩) (hf.nix hi)) h1
    refine .fresh (by rw [ho]; simp) hf hi (z := ⟨w.heap.size, 0, 0, 0, none, undef⟩) (v := .pointer (some ⟨w.heap.size, 0, none⟩)) (w' := w.alloc (.cells v.cells.toList.toArray t)) rfl ?_ (step_alloc _ _) (alloc_new _ _) (newB_obj (cellsX_den hy') t _ _) (by simp only [den, Env.add_self]) h
    obtain ⟨dst, op, type, pos, after, guard⟩ := o
    subst ho
    have e1 : execOp a.eval ⟨dst, .box t x, type, pos, after, guard⟩ = (do pure (.value (← Instr.box t (a.eval x)))) := rfl
    rw [e1, h2]
    simp only [Instr.box, newVar, newRow, newObj, Array.toArray_toList]
    rfl
  · cases h

/-! Stores. -/
/-- A value's cells, by its type. -/
def vcsX (D : TD) (y : X) : Option X :=
  match isAggD D.d, y with
  | true, .agg l => (match Nat.beq (xlen l) D.size, allOne l with
    | true, true => some l
    | _, _ => none)
  | false, y => (match Nat.beq D.size 1, oneX y with
    | true, true => some (.cs y .nl)
    | _, _ => none)
  | _, _ => none
theorem vcsX_run {D : TD} {y l : X} {v : Value} (hy : den e y = some v) (h : vcsX D y = some l) : ∃ vs, denL e l = some vs ∧ vcs D v = some vs := by
  unfold vcsX at h
  split at h
  · rename_i hag
    obtain ⟨vs, h1, rfl⟩ := den_agg hy
    split at h
    · rename_i h2 h3
      cases h
      refine ⟨vs, h1, ?_⟩
      unfold vcs
      rw [if_pos hag]
      simp only [List.toList_toArray]
      rw [if_pos ⟨by rw [← xlen_den h1]; exact beqT.1 h2, List.all_eq_true.2 (allOne_one h3 h1)⟩]
    · cases h
  · rename_i hag
    split at h
    · rename_i h2 h3
      cases h
      refine ⟨[v], by simp only [denL, hy], ?_⟩
      unfold vcs
      rw [if_neg (by simp [hag]), if_pos ⟨beqT.1 h2, oneX_one h3 hy⟩]
    · cases h
  · cases h
/-- Cells are put into a known block. -/
def stB (hp : Hp) (id off : Nat) (l : X) : Option Hp :=
  match find hp id with
  | some (.c t sz n z zn tr) => (match Nat.ble (off + xlen l) n with
    | true => (match putAll 40 tr off l with
      | some tr' => put 40 hp id (some (.c t sz n z zn tr'))
      | none => none)
    | false => none)
  | _ => none
theorem wr_mid {pre vs post us : List Value} {off : Nat} (h : off + us.length ≤ vs.length) : wr (pre ++ vs ++ post) (pre.length + off) us = pre ++ wr vs off us ++ post := by
  unfold wr
  rw [List.append_assoc pre vs post, List.take_append, List.drop_append, List.take_of_length_le (by omega), List.drop_eq_nil_of_le (by omega)]
  rw [show pre.length + off - pre.length = off by omega, show pre.length + off + us.length - pre.length = off + us.length by omega]
  rw [List.take_append_of_le_length (by omega), List.drop_append_of_le_length (by omega)]
  simp [List.append_assoc]
/-- Cells are stored ahead of what is frozen. -/
theorem store_row (P : Program) {g o : Nat} {t : TypeId} {fz : Nat × Nat} : ∀ {vs : List Value} {i : Nat} {cur : Array Value} {w : World}, w.heap[g]? = some (.cells cur t fz) → FrOk fz cur.size → o + i + vs.length ≤ cur.size → (∀ v ∈ vs, v.oneCell' = true) →
    (storeCells ⟨g, o, none⟩ vs i).run P w = .ok () (w.setRow g (wr cur.toList (o + i) vs).toArray)
  | [], i, cur, w, hg, _, _, _ => by
    have e : wr cur.toList (o + i) [] = cur.toList := by simp [wr]
    rw [e, Array.toArray_toList, setRow_self w g cur t fz hg]
    rfl
  | v :: vs, i, cur, w, hg, hz, hl, h1 => by
    rw [List.length_cons] at hl
    have hi : o + i < cur.size := by omega
    have hc : w.cell? ⟨g, o + i, none⟩ = some cur[o + i] := by simp [World.cell?, hg, hi]
    have hn : w.frozen? ⟨g, o + i, none⟩ = false := by
      have hz : fz.2 = 0 ∨ cur.size ≤ fz.1 := hz
      simp only [World.frozen?, hg, Bool.and_eq_false_iff, decide_eq_false_iff_not]
      omega
    have hs : (store ((⟨g, o, none⟩ : Addr).add i) v).run P w = .ok () (w.setRow g (cur.setIfInBounds (o + i) v)) := by
      rw [add_own, run_store P w _ v _ (h1 v List.mem_cons_self), hc]
      simp [hn, setCell_eq_setRow w g (o + i) cur t fz v hg]
    have ih := store_row P (g := g) (o := o) (t := t) (fz := fz) (vs := vs) (i := i + 1) (cur := cur.setIfInBounds (o + i) v) (setRow_heap w g cur _ t _ hg) (by rw [Array.size_setIfInBounds]; exact hz) (by rw [Array.size_setIfInBounds]; omega) fun x hx => h1 x (List.mem_cons_of_mem _ hx)
    simp only [storeCells, Sem.run_bind, hs, Result.andThen_ok, ih, setRow_setRow]
    congr 3
    have := list_seg_step cur.toList (o + i) v vs (by simp; omega)
    simpa [wr, Array.toList_setIfInBounds, Nat.add_assoc] using this
theorem stB_run (hf : Fit B e hp U w) {id off : Nat} {l : X} {us : List Value} {z : EE} {hp' : Hp} (he : e id = some z) (hl : denL e l = some us) (h1 : ∀ v ∈ us, v.oneCell' = true) (h : stB hp id off l = some hp') :
    ∃ w', (storeCells ⟨z.b, z.o + off, none⟩ us).run P w = .ok () w' ∧ Fit B e hp' U w' ∧ ∀ b, b ≠ z.b → w'.heap[b]? = w.heap[b]? := by
  unfold stB at h
  split at h
  · rename_i t sz n zz zn tr hb
    split at h
    · rename_i hle
      have hle : off + us.length ≤ n := by rw [← xlen_den hl]; simpa using hle
      split at h
      · rename_i tr' htr
        obtain ⟨pre, vs, post, fz, ⟨g1, gz⟩, g2, g3, g4, g5⟩ := hf.cells hb he
        have hvs := g3.1
        have hrun := store_row P (o := z.o + off) (i := 0) g1 (by rw [List.size_toArray]; exact gz) (by simp; omega) h1
        simp only [Nat.add_zero] at hrun
        have hwr : wr (pre ++ vs ++ post).toArray.toList (z.o + off) us = pre ++ wr vs off us ++ post := by
          rw [← wr_mid (by omega), g2]
        rw [hwr] at hrun
        refine ⟨_, hrun, ?_, fun b hne => setRow_other _ _ _ _ hne⟩
        refine hf.set hb he rfl (fun m s r c hh => by rw [g1] at hh; cases hh) (step_setRow _ _ _) (setRow_heap w z.b _ _ _ _ g1) ?_ h
        have hput := g3.putAll hl (by omega) htr
        have := hput.1
        refine ⟨g4, pre, wr vs off us, post, fz, rfl, ?_, g2, hput, ?_, g5.2⟩
        · have : (pre ++ wr vs off us ++ post).length = (pre ++ vs ++ post).length := by simp only [List.length_append]; omega
          rw [this]
          exact gz
        have g5 := g5.1
        simp only [List.length_append] at g5 ⊢
        omega
      · cases h
    · cases h
  · cases h
def aStore (τ : Ty) (fr : Tr X) (hp : Hp) (nx : Nat) (t : TypeId) (p v : Operand) : Option Outs :=
  match find τ t, ev fr p, ev fr v with
  | some D, some (.p id off), some y => (match vcsX D y with
    | some l => outc undX nx (stB hp id off l)
    | none => none)
  | _, _, _ => none
theorem aStore_ok (hτ : TyOk P τ) (hk : KnX e n fr dm a) (hf : Fit B e hp U w) {t : TypeId} {p v : Operand} (ho : o.op = .store t p v) {outs : Outs} (h : aStore τ fr hp nx t p v = some outs) : EffOk P ro B e U i nx o a w outs := by
  unfold aStore at h
  split at h
  · rename_i D id off y hD hp' hv
    obtain ⟨vp, p1, p2⟩ := ev_run hk hp'
    obtain ⟨vv, v1, v2⟩ := ev_run hk hv
    obtain ⟨z, hz, rfl⟩ := den_p p1
    split at h
    · rename_i l hl
      obtain ⟨hp2, g1, g2⟩ := outc_some h
      obtain ⟨vs, k1, k2⟩ := vcsX_run v1 hl
      obtain ⟨j1, j2, j3⟩ := vcs_cells k2
      obtain ⟨w', r1, r2, _⟩ := stB_run (P := P) hf hz k1 j3 g1
      refine .skip (by rw [ho]; simp) ⟨hp2, nx, w', e, g2, ?_, Env.le_refl e, r2.used fun id h => .inl h⟩
      obtain ⟨dst, op, type, pos, after, guard⟩ := o
      subst ho
      have e1 : execOp a.eval ⟨dst, .store t p v, type, pos, after, guard⟩ = (do Instr.storeAt t (a.eval p) (a.eval v); pure .skip) := rfl
      rw [e1, p2, v2]
      have : (Instr.storeAt t (.pointer (some ⟨z.b, z.o + off, none⟩)) vv).run P w = .ok () w' := by
        simp only [Instr.storeAt, Instr.sureAddr, Sem.run_bind, Sem.run_pure, Result.andThen_ok, storeVar, ty_size (hτ _ _ hD)]
        rw [if_neg (by rw [← j2, ← j1]; simp), j1]
        exact r1
      simp only [Sem.run_bind, this, Result.andThen_ok, Sem.run_pure]
    · cases h
  · cases h

/-! What is built. -/
def xcat : X → X → X
  | .cs a b, y => .cs a (xcat b y)
  | _, y => y
theorem xcat_den : ∀ {x y : X} {l m : List Value}, denL e x = some l → denL e y = some m → denL e (xcat x y) = some (l ++ m) := by
  intro x
  induction x with
  | cs a b _ ih =>
    intro y l m h h'
    rcases denL_cases h with ⟨h0, _⟩ | ⟨a', b', u, r, h0, rfl, g1, g2⟩
    · cases h0
    · cases h0
      simp only [xcat, denL, g1, ih g2 h', List.cons_append]
  | nl => intro y l m h h'; simp only [denL, Option.some.injEq] at h; subst h; simpa only [xcat, List.nil_append] using h'
  | _ => intro y l m h; simp [denL] at h
def wrX (cs : X) (off : Nat) (us : X) : X := xcat (xtake cs off) (xcat us (xdrop cs (off + xlen us)))
theorem wrX_den {cs us : X} {l m : List Value} {off : Nat} (h : denL e cs = some l) (h' : denL e us = some m) : denL e (wrX cs off us) = some (wr l off m) := by
  unfold wrX wr
  rw [xlen_den h']
  have := xcat_den (xtake_den (k := off) h) (xcat_den h' (xdrop_den (k := off + m.length) h))
  rw [this, List.append_assoc]
def fillX (pl : Nat → Option (Nat × TD)) : List (Nat × X) → X → Option X
  | [], cs => some cs
  | (i, v) :: rest, cs => match pl i with
    | none => none
    | some (off, D) => match vcsX D v with
      | none => none
      | some vs => (match Nat.ble (off + D.size) (xlen cs) with
        | true => fillX pl rest (wrX cs off vs)
        | false => none)
def partsX (fr : Tr X) : List (Nat × Operand) → Option (List (Nat × X))
  | [] => some []
  | (i, x) :: l => match ev fr x, partsX fr l with
    | some y, some ys => some ((i, y) :: ys)
    | _, _ => none
def PartsAre (e : Env) : List (Nat × X) → List (Nat × Value) → Prop
  | [], l => l = []
  | (i, x) :: r, l => ∃ v l', den e x = some v ∧ l = (i, v) :: l' ∧ PartsAre e r l'
theorem partsX_run (hk : KnX e n fr dm a) (w : World) : ∀ {l : List (Nat × Operand)} {r : List (Nat × X)}, partsX fr l = some r → ∃ vs, PartsAre e r vs ∧ partsv (fullS a n w) l = some vs
  | [], r, h => by simp only [partsX, Option.some.injEq] at h; subst h; exact ⟨[], rfl, rfl⟩
  | (i, x) :: l, r, h => by
    simp only [partsX] at h
    split at h
    · rename_i h1 h2
      cases h
      obtain ⟨v, g1, _, g2⟩ := ev_full hk w h1
      obtain ⟨vs, g3, g4⟩ := partsX_run hk w h2
      exact ⟨(i, v) :: vs, ⟨v, vs, g1, rfl, g3⟩, by simp only [partsv, g2, g4, AV.val_v]⟩
    · cases h
theorem fillX_run {pl pl' : Nat → Option (Nat × TD)} (hpl : ∀ i r, pl i = some r → pl' i = some r) : ∀ {ps : List (Nat × X)} {vs : List (Nat × Value)} {cs r : X} {l : List Value}, PartsAre e ps vs → denL e cs = some l → fillX pl ps cs = some r → ∃ m, denL e r = some m ∧ fillS pl' vs l = some m
  | [], vs, cs, r, l, hp, hc, h => by
    simp only [fillX, Option.some.injEq] at h
    subst h
    simp only [PartsAre] at hp
    subst hp
    exact ⟨l, hc, rfl⟩
  | (i, x) :: ps, vs, cs, r, l, ⟨v, vs', h1, h2, h3⟩, hc, h => by
    subst h2
    simp only [fillX] at h
    split at h
    · cases h
    · rename_i off D hD
      split at h
      · cases h
      · rename_i us hus
        split at h
        · rename_i hle
          obtain ⟨uv, g1, g2⟩ := vcsX_run h1 hus
          have hle : off + D.size ≤ l.length := by rw [← xlen_den hc]; simpa using hle
          obtain ⟨m, g3, g4⟩ := fillX_run hpl h3 (wrX_den hc g1) h
          exact ⟨m, g3, by simp only [fillS, hpl _ _ hD, g2]; rw [if_pos hle]; exact g4⟩
        · cases h
/-- A struct that is built: a value. -/
def bldX (τ : Ty) (fr : Tr X) (t : TypeId) (parts : Array (Nat × Operand)) : Option X :=
  match find τ t, partsX fr parts.toList with
  | some ⟨.struct fs, _, _, z⟩, some ps => (match fs.toList.all (fun f => (find τ f.type).isSome), xof z with
    | true, some (.agg zx) => (match fillX (fdT τ t) ps zx with
      | some r => some (.agg r)
      | none => none)
    | _, _ => none)
  | _, _ => none
theorem bldX_run (hτ : TyOk P τ) (hk : KnX e n fr dm a) {t : TypeId} {parts : Array (Nat × Operand)} {y : X} (h : bldX τ fr t parts = some y) :
    ∃ v, den e y = some v ∧ (Instr.build t (parts.map fun (i, x) => (i, a.eval x))).run P w = .ok v w := by
  unfold bldX at h
  split at h
  · rename_i fs _ _ z ps ht hps
    split at h
    · rename_i zx hall hz
      split at h
      · rename_i r hr
        cases h
        obtain ⟨vs, g1, g2⟩ := partsX_run hk w hps
        obtain ⟨zl, g3, hz2⟩ := den_agg (xof_den hz e)
        obtain ⟨m, g4, g5⟩ := fillX_run (fun i r h => fdT_run hτ h) g1 g3 hr
        refine ⟨.agg m.toArray, by simp only [den, g4], ?_⟩
        have hb : bldv P (fullS a n w) t parts = some (.v (.agg m.toArray)) := by
          unfold bldv
          rw [hτ _ _ ht, g2]
          simp only
          rw [if_pos]
          · rw [hz2]; simp only [Value.cells, List.toList_toArray, g5]
          · rw [List.all_eq_true] at hall ⊢
            intro f hf
            obtain ⟨D, hD⟩ := Option.isSome_iff_exists.1 (hall f hf)
            simp [hτ _ _ hD]
        exact bldv_run (full_kn hk w) hb
      · cases h
    · cases h
  · cases h
/-- Zero cells, over and over. -/
theorem zeros_are {zl : X} {zs : List Value} (hz : denL e zl = some zs) (hpos : 0 < zs.length) (n : Nat) : CellsAre e n zl zs.length .lf ((List.range n).map fun i => zs.getD (i % zs.length) undef) := by
  refine ⟨by simp, fun j hj => ?_⟩
  have hm := Nat.mod_lt j hpos
  have hmk := (CellsAre.mk hz).2 (j % zs.length) hm
  obtain ⟨x, v, h1, h2, h3⟩ := hmk
  unfold cellAt at h1 ⊢
  rw [bltT.2 hm, find_lf] at h1
  rw [bltT.2 hj, find_lf]
  simp only [Nat.mod_mod] at h1
  refine ⟨x, v, h1, h2, ?_⟩
  rw [List.getElem?_map, List.getElem?_range hj]
  simp only [Option.map_some, List.getD, h3, Option.getD_some]
def fillT (sz n : Nat) (D : TD) : List (Nat × X) → Tr X → Option (Tr X)
  | [], tr => some tr
  | (i, v) :: rest, tr => (match vcsX D v with
    | some us => (match Nat.ble (i * sz + D.size) n with
      | true => (match putAll 40 tr (i * sz) us with
        | some tr' => fillT sz n D rest tr'
        | none => none)
      | false => none)
    | none => none)
theorem fillT_run {n : Nat} {D : TD} {z : X} {zn : Nat} : ∀ {ps : List (Nat × X)} {vs : List (Nat × Value)} {tr tr' : Tr X} {l : List Value}, PartsAre e ps vs → CellsAre e n z zn tr l → fillT D.size n D ps tr = some tr' → ∃ m, CellsAre e n z zn tr' m ∧ fillS (fun i => some (i * D.size, D)) vs l = some m
  | [], vs, tr, tr', l, hp, hc, h => by
    simp only [fillT, Option.some.injEq] at h
    subst h
    simp only [PartsAre] at hp
    subst hp
    exact ⟨l, hc, rfl⟩
  | (i, x) :: ps, vs, tr, tr', l, ⟨v, vs', h1, h2, h3⟩, hc, h => by
    subst h2
    simp only [fillT] at h
    split at h
    · rename_i us hus
      split at h
      · rename_i hle
        have hle : i * D.size + D.size ≤ n := by simpa using hle
        split at h
        · rename_i t1 ht1
          obtain ⟨uv, g1, g2⟩ := vcsX_run h1 hus
          have hlu := (vcs_cells g2).2.1
          obtain ⟨m, g3, g4⟩ := fillT_run h3 (hc.putAll g1 (by omega) ht1) h
          exact ⟨m, g3, by simp only [fillS, g2]; rw [if_pos (by rw [hc.1]; exact hle)]; exact g4⟩
        · cases h
      · cases h
    · cases h
def aBuildSlice (τ : Ty) (fr : Tr X) (hp : Hp) (i nx : Nat) (t : TypeId) (len : Nat) (parts : Array (Nat × Operand)) : Option Outs :=
  match find τ t with
  | some ⟨.slice el, _, _, _⟩ => (match find τ el, partsX fr parts.toList with
    | some D, some ps => (match Nat.ble (len * D.size) 1000, xof D.zero with
      | true, some zx => (match Nat.blt 0 (xlen (cellsX zx)), fillT D.size (len * D.size) D ps .lf with
        | true, some tr => outc (.l i 0 len len) nx (put 40 hp i (some (.c el D.size (len * D.size) (cellsX zx) (xlen (cellsX zx)) tr)))
        | _, _ => none)
      | _, _ => none)
    | _, _ => none)
  | _ => none
theorem aBuildSlice_ok (hτ : TyOk P τ) (hk : KnX e n fr dm a) (hf : Fit B e hp U w) (hi : ¬ U i) {t : TypeId} {len : Nat} {parts : Array (Nat × Operand)} (ho : o.op = .buildSlice t len parts) {outs : Outs} (h : aBuildSlice τ fr hp i nx t len parts = some outs) : EffOk P ro B e U i nx o a w outs := by
  unfold aBuildSlice at h
  split at h
  · rename_i el _ _ _ ht
    split at h
    · rename_i D ps hD hps
      split at h
      · rename_i zx hlen hzx
        split at h
        · rename_i tr hz0 htr
          obtain ⟨vs, g1, g2⟩ := partsX_run hk w hps
          have hcz := cellsX_den (xof_den hzx e)
          have hzl := xlen_den hcz
          have hpos : 0 < D.zero.cells.toList.length := by rw [← hzl]; exact bltT.1 hz0
          have hlen : len * D.size ≤ 1000 := by simpa using hlen
          obtain ⟨m, g3, g4⟩ := fillT_run g1 (zeros_are hcz hpos (len * D.size)) htr
          have hb : bslv P (fullS a n w) t len parts = some (el, m) := by
            unfold bslv
            rw [hτ _ _ ht]
            simp only
            rw [hτ _ _ hD, g2]
            simp only
            rw [if_pos ⟨hlen, hpos⟩, g4]
          have hr := bslv_run (w := w) (full_kn hk w) hb
          have hle := Env.le_add (z := ⟨w.heap.size, 0, len, D.size, none, undef⟩) (hf.nix hi)
          refine .fresh (by rw [ho]; simp) hf hi (z := ⟨w.heap.size, 0, len, D.size, none, undef⟩) (v := .slice (some ⟨w.heap.size, 0, none⟩) len len) (w' := w.alloc (.cells m.toArray el)) rfl ?_ (step_alloc _ _) (alloc_new _ _)
            (objC (by rw [hzl]; exact g3.mono hle)) (by simp only [den, Env.add_self]; rw [if_pos (Nat.le_refl _)]) h
          obtain ⟨dst, op, type, pos, after, guard⟩ := o
          subst ho
          exact run_value' (by rfl) hr
        · cases h
      · cases h
    · cases h
  · cases h
def aMakeSlice (τ : Ty) (fr : Tr X) (hp : Hp) (i nx : Nat) (t : TypeId) (l c : Operand) : Option Outs :=
  match find τ t, ev fr l, ev fr c with
  | some ⟨.slice el, _, _, _⟩, some (.i _ ln), some (.i _ cn) => (match find τ el, leN cn 1000000, leN ln 1000000 with
    | some D, some c, some l => (match Nat.ble l c, Nat.ble D.bytes 1000, xof D.zero with
      | true, true, some zx => (match Nat.blt 0 (xlen (cellsX zx)) with
        | true => outc (.l i 0 l c) nx (put 40 hp i (some (.c el D.size (c * D.size) (cellsX zx) (xlen (cellsX zx)) .lf)))
        | false => none)
      | _, _, _ => none)
    | _, _, _ => none)
  | _, _, _ => none
theorem aMakeSlice_ok (hτ : TyOk P τ) (hk : KnX e n fr dm a) (hf : Fit B e hp U w) (hi : ¬ U i) {t : TypeId} {l c : Operand} (ho : o.op = .makeSlice t l c) {outs : Outs} (h : aMakeSlice τ fr hp i nx t l c = some outs) : EffOk P ro B e U i nx o a w outs := by
  unfold aMakeSlice at h
  split at h
  · rename_i el _ _ _ kl ln kc cn ht hl hc
    obtain ⟨vl, l1, l2⟩ := ev_run hk hl
    obtain ⟨vc, c1, c2⟩ := ev_run hk hc
    simp only [den, Option.some.injEq] at l1 c1
    subst l1; subst c1
    split at h
    · rename_i D c' l' hD hc' hl'
      split at h
      · rename_i zx hlc hby hzx
        split at h
        · rename_i hz0
          obtain ⟨p1, p2, p3, p4⟩ := leN_ok hc'
          obtain ⟨q1, q2, q3, q4⟩ := leN_ok hl'
          have hlc : l' ≤ c' := by simpa using hlc
          have hby : D.bytes ≤ 1000 := by simpa using hby
          have hcz := cellsX_den (xof_den hzx e)
          have hzl := xlen_den hcz
          have hpos : 0 < D.zero.cells.toList.length := by rw [← hzl]; exact bltT.1 hz0
          obtain ⟨_, i0, hi0, h1, h2, h3⟩ := ty_some (hτ _ _ hD)
          have hb' : (i0.bytes : Int) * cn ≤ 281474976710656 := by
            rw [h2]
            have : (D.bytes : Int) * cn ≤ 1000 * 1000000 := Int.mul_le_mul (by omega) p2 p1 (by omega)
            omega
          have hr := run_make (P := P) w t el i0 D.zero (by rw [(ty_some (hτ _ _ ht)).1]) hi0 h3 kl kc ln cn q1 (by omega) hb' (by omega)
          rw [p3, q3, h1] at hr
          have hmc : madeCells D.zero.cells (c' * D.size) = ((List.range (c' * D.size)).map fun i => D.zero.cells.toList.getD (i % D.zero.cells.toList.length) undef).toArray := by
            have hpos' : 0 < D.zero.cells.size := by simpa using hpos
            apply Array.ext'
            unfold madeCells
            rw [Array.toList_map, Array.toList_range]
            refine List.map_congr_left fun i _ => ?_
            have hm := Nat.mod_lt i hpos'
            simp [hm]
          rw [hmc] at hr
          have hle := Env.le_add (z := ⟨w.heap.size, 0, c', D.size, none, undef⟩) (hf.nix hi)
          refine .fresh (by rw [ho]; simp) hf hi (z := ⟨w.heap.size, 0, c', D.size, none, undef⟩) rfl (v := .slice (some ⟨w.heap.size, 0, none⟩) l' c') ?_ (step_alloc _ _) (alloc_new _ _)
            (objC (by rw [hzl]; exact (zeros_are hcz hpos (c' * D.size)).mono hle)) (by simp only [den, Env.add_self]; rw [if_pos hlc]) h
          obtain ⟨dst, op, type, pos, after, guard⟩ := o
          subst ho
          refine run_value' (s := Instr.makeSlice t (a.eval l) (a.eval c)) (by rfl) ?_
          rw [l2, c2]
          simpa using hr
        · cases h
      · cases h
    · cases h
  · cases h
end
end Go.AM
