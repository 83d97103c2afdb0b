/- The evaluator, part 6: how memory turns. -/
import Derived.Test.YtmiekonofocboaaGreatDoorF5
set_option linter.unusedVariables false
set_option linter.unusedSectionVars false
set_option linter.unusedSimpArgs false
namespace Go.AM
open Go Go.RowKit Go.Eng
section
variable {B : World} {e : Env} {hp hp' : Hp} {U : Nat → Prop} {w w' : World}

def NoIter (w : World) (b : Nat) : Prop := ∀ (m : Option Nat) (s : Nat) (r : Array Nat) (c : Nat), w.heap[b]? ≠ some (Obj.mapIter m s r c)
/-- Two worlds that differ in one block at most, and in what is new. -/
structure Step (w w' : World) (g : Option Nat) : Prop where
  os : w'.os = w.os
  tape : w'.tape = w.tape
  output : w'.output = w.output
  size : w.heap.size ≤ w'.heap.size
  block : ∀ k, k < w.heap.size → g ≠ some k → w'.heap[k]? = w.heap[k]?
theorem Step.refl (w : World) (g : Option Nat) : Step w w g := ⟨rfl, rfl, rfl, Nat.le_refl _, fun _ _ _ => rfl⟩
theorem Fit.used (hf : Fit B e hp U w) {U' : Nat → Prop} (h : ∀ id, U id → U' id) : Fit B e hp U' w :=
  ⟨hf.late, fun id z hz => h _ (hf.use id z hz), hf.dom, hf.obj, hf.own, hf.inj, hf.env⟩
theorem Fit.blt (hf : Fit B e hp U w) {id : Nat} {bl : Blk} {z : EE} (hb : find hp id = some bl) (he : e id = some z) : z.b < w.heap.size := by
  obtain ⟨o, h, _⟩ := hf.obj id bl z hb he
  exact heap_lt h
theorem Fit.late' (hf : Fit B e hp U w) {g : Option Nat} (hw : Step w w' g) (hg : ∀ b, g = some b → B.heap.size ≤ b) : Later (fun _ => False) B w' :=
  ⟨hw.os.trans hf.late.os, hw.tape.trans hf.late.tape, hw.output.trans hf.late.output, Nat.le_trans hf.late.size hw.size, fun k hk hx =>
    (hw.block k (Nat.lt_of_lt_of_le hk hf.late.size) (fun e => absurd (hg k e) (by omega))).trans (hf.late.block k hk hx)⟩
theorem Step.iter {g : Option Nat} (hw : Step w w' g) (hn : ∀ b, g = some b → NoIter w b) (b : Nat) (m : Option Nat) (s : Nat) (r : Array Nat) (c : Nat) (h : w.heap[b]? = some (Obj.mapIter m s r c)) : w'.heap[b]? = w.heap[b]? :=
  hw.block b (heap_lt h) fun e => hn b e m s r c h
/-- The world turned where nothing lies that is known. -/
theorem Fit.world (hf : Fit B e hp U w) {g : Option Nat} (hw : Step w w' g) (hg : ∀ b, g = some b → B.heap.size ≤ b ∧ NoIter w b ∧ ∀ id bl z, find hp id = some bl → e id = some z → z.b ≠ b) : Fit B e hp U w' := by
  refine ⟨hf.late' hw fun b hb => (hg b hb).1, hf.use, hf.dom, fun id b z hb hz => ?_, hf.own, hf.inj, hf.env⟩
  · obtain ⟨o, g1, g2⟩ := hf.obj id b z hb hz
    exact ⟨o, (hw.block _ (hf.blt hb hz) fun e => (hg _ e).2.2 id b z hb hz rfl).trans g1, g2.mono (Env.le_refl e) fun b' s r c h => hw.iter (fun b hb => (hg b hb).2.1) b' _ s r c h⟩
/-- A known block turned. -/
theorem Fit.set (hf : Fit B e hp U w) {id : Nat} {bl bl' : Blk} {z : EE} {o' : Obj} (hb : find hp id = some bl) (he : e id = some z) (hro : bl.ro = false) (hn : NoIter w z.b) (hw : Step w w' (some z.b)) (hh : w'.heap[z.b]? = some o') (ho : IsObj e w' z bl' o') (hput : put 40 hp id (some bl') = some hp') : Fit B e hp' U w' := by
  have hf' := put_find _ _ _ _ _ hput
  refine ⟨hf.late' hw fun b hb' => by cases hb'; exact hf.own id bl z hb he hro, hf.use, fun i b h => ?_, fun i b zi h hz => ?_, fun i b zi h hz h0 => ?_, fun i i' b b' z1 z2 h h' hz hz' hzz => ?_, hf.env⟩
  · rw [hf'] at h
    split at h
    · rename_i e1; subst e1; rw [he]; exact fun h => nomatch h
    · exact hf.dom i b h
  · rw [hf'] at h
    split at h
    · rename_i e1
      subst e1
      cases h
      rw [he] at hz
      cases hz
      exact ⟨o', hh, ho⟩
    · rename_i e1
      obtain ⟨o, g1, g2⟩ := hf.obj i b zi h hz
      refine ⟨o, (hw.block _ (hf.blt h hz) fun e2 => e1 (hf.inj i id b bl zi z h hb hz he (Option.some.inj e2).symm)).trans g1, g2.mono (Env.le_refl e) fun b' s r c h => hw.iter (fun b hb => by cases hb; exact hn) b' _ s r c h⟩
  · rw [hf'] at h
    split at h
    · rename_i e1
      subst e1
      rw [he] at hz
      cases hz
      exact hf.own i bl z hb he hro
    · exact hf.own i b zi h hz h0
  · rw [hf'] at h h'
    split at h <;> split at h' <;> rename_i e1 e2
    · exact e1.trans e2.symm
    · subst e1; rw [he] at hz; cases hz; exact hf.inj _ _ bl b' _ _ hb h' he hz' hzz
    · subst e2; rw [he] at hz'; cases hz'; exact hf.inj _ _ b bl _ _ h hb hz he hzz
    · exact hf.inj _ _ b b' z1 z2 h h' hz hz' hzz
/-- A name is forgotten. -/
theorem Fit.drop (hf : Fit B e hp U w) {id : Nat} (hput : put 40 hp id none = some hp') : Fit B e hp' U w := by
  have hf' := put_find _ _ _ _ _ hput
  have hsub : ∀ i b, find hp' i = some b → find hp i = some b := fun i b h => by
    rw [hf'] at h
    split at h
    · cases h
    · exact h
  exact ⟨hf.late, hf.use, fun i b h => hf.dom i b (hsub i b h), fun i b z h => hf.obj i b z (hsub i b h), fun i b z h => hf.own i b z (hsub i b h), fun i i' b b' z z' h h' => hf.inj i i' b b' z z' (hsub i b h) (hsub i' b' h'), hf.env⟩
def Env.add (e : Env) (i : Nat) (z : EE) : Env := fun k => if k = i then some z else e k
theorem Env.le_add {i : Nat} {z : EE} (h : e i = none) : e.le (e.add i z) := fun k zk hk => by
  unfold Env.add
  split
  · subst_vars; rw [h] at hk; cases hk
  · exact hk
theorem Env.add_self (i : Nat) (z : EE) : (e.add i z) i = some z := by simp [Env.add]
theorem Fit.nix (hf : Fit B e hp U w) {i : Nat} (hi : ¬ U i) : e i = none := by
  cases h : e i with
  | none => rfl
  | some z => exact absurd (hf.use i z h) hi
/-- A new name for a block that no known name has. -/
theorem Fit.adopt (hf : Fit B e hp U w) {i : Nat} {z : EE} {bl : Blk} {o : Obj} (hi : ¬ U i) (hB : B.heap.size ≤ z.b) (hh : w.heap[z.b]? = some o) (hno : ∀ id bl z', find hp id = some bl → e id = some z' → z'.b ≠ z.b) (ho : IsObj (e.add i z) w z bl o)
    (hput : put 40 hp i (some bl) = some hp') : Fit B (e.add i z) hp' (fun id => U id ∨ id = i) w := by
  have hf' := put_find _ _ _ _ _ hput
  have hle := Env.le_add (z := z) (hf.nix hi)
  have hne : ∀ k zk, k ≠ i → (e.add i z) k = some zk → e k = some zk := fun k zk h1 h2 => by simpa [Env.add, h1] using h2
  refine ⟨hf.late, fun id zk hz => ?_, fun k b h => ?_, fun k b zk h hz => ?_, fun k b zk h hz h0 => ?_, fun k k' b b' z1 z2 h h' hz hz' hzz => ?_, hf.env.mono hle⟩
  · by_cases e1 : id = i
    · subst e1
      rw [Env.add_self] at hz
      cases hz
      exact .inr rfl
    · exact .inl (hf.use id zk (hne _ _ e1 hz))
  · rw [hf'] at h
    split at h
    · rename_i e1; subst e1; rw [Env.add_self]; exact fun h => nomatch h
    · rename_i e1
      have := hf.dom k b h
      simpa [Env.add, e1] using this
  · rw [hf'] at h
    split at h
    · rename_i e1
      subst e1
      cases h
      rw [Env.add_self] at hz
      cases hz
      exact ⟨o, hh, ho⟩
    · rename_i e1
      obtain ⟨o', g1, g2⟩ := hf.obj k b zk h (hne _ _ e1 hz)
      exact ⟨o', g1, g2.mono hle fun _ _ _ _ _ => rfl⟩
  · rw [hf'] at h
    split at h
    · rename_i e1
      subst e1
      rw [Env.add_self] at hz
      cases hz
      exact hB
    · rename_i e1
      exact hf.own k b zk h (hne _ _ e1 hz) h0
  · rw [hf'] at h h'
    split at h <;> split at h' <;> rename_i e1 e2
    · exact e1.trans e2.symm
    · subst e1; rw [Env.add_self] at hz; cases hz; exact absurd hzz.symm (hno _ b' _ h' (hne _ _ e2 hz'))
    · subst e2; rw [Env.add_self] at hz'; cases hz'; exact absurd hzz (hno _ b _ h (hne _ _ e1 hz))
    · exact hf.inj _ _ b b' z1 z2 h h' (hne _ _ e1 hz) (hne _ _ e2 hz') hzz
/-- A new block, under a new name. -/
theorem Fit.alloc (hf : Fit B e hp U w) {i : Nat} {z : EE} {bl : Blk} {o : Obj} (hi : ¬ U i) (hw : Step w w' none) (hz : w.heap.size ≤ z.b) (hh : w'.heap[z.b]? = some o) (ho : IsObj (e.add i z) w' z bl o) (hput : put 40 hp i (some bl) = some hp') :
    Fit B (e.add i z) hp' (fun id => U id ∨ id = i) w' :=
  (hf.world hw (fun b h => nomatch h)).adopt hi (Nat.le_trans hf.late.size hz) hh (fun id bl z' h h' => by have := hf.blt h h'; omega) ho hput
theorem step_alloc (w : World) (o : Obj) : Step w (w.alloc o) none := ⟨rfl, rfl, rfl, by simp, fun k hk _ => Below.heap_alloc w o k hk⟩
theorem step_alloc' (w w0 : World) (o : Obj) (h1 : w0.os = w.os) (h2 : w0.tape = w.tape) (h3 : w0.output = w.output) (h4 : w0.heap = w.heap) : Step w (w0.alloc o) none :=
  ⟨h1, h2, h3, by simp [h4], fun k hk _ => by rw [← h4] at hk ⊢; exact Below.heap_alloc w0 o k hk⟩
theorem alloc_new (w : World) (o : Obj) : (w.alloc o).heap[w.heap.size]? = some o := by show (w.heap.push _)[w.heap.size]? = _; simp
theorem step_setRow (w : World) (b : Nat) (cs : Array Value) : Step w (w.setRow b cs) (some b) :=
  ⟨rfl, rfl, rfl, by simp, fun k _ hne => setRow_other _ _ _ _ fun e => hne (by rw [e])⟩
theorem step_setObj (w : World) (b : Nat) (o : Obj) : Step w { w with heap := w.heap.setIfInBounds b o } (some b) :=
  ⟨rfl, rfl, rfl, by simp, fun k hk hne => by
    have : b ≠ k := fun e => hne (by rw [e])
    simp [Array.getElem?_setIfInBounds, this]⟩
theorem setObj_same {w : World} {b : Nat} {o : Obj} (h : b < w.heap.size) : ({ w with heap := w.heap.setIfInBounds b o } : World).heap[b]? = some o := by simp [h]
end

/-! ### Cells -/
/-- One cell after the other is put. -/
def putAll (d : Nat) : Tr X → Nat → X → Option (Tr X)
  | tr, j, .cs x l => (match put d tr j (some x) with
    | some tr' => putAll d tr' (j + 1) l
    | none => none)
  | tr, _, .nl => some tr
  | _, _, _ => none
def oneX : X → Bool
  | .agg _ => false
  | .tup _ => false
  | .nl => false
  | .cs _ _ => false
  | _ => true
def allOne : X → Bool
  | .nl => true
  | .cs x l => oneX x && allOne l
  | _ => false
theorem oneX_one {e : Env} {x : X} {v : Value} (h : oneX x = true) (hv : den e x = some v) : v.oneCell' = true := by
  cases x <;> simp only [oneX] at h <;> first
    | (cases h; done)
    | (simp only [den, Option.some.injEq] at hv; subst hv; rfl)
    | (obtain ⟨_, rfl⟩ := den_s hv; rfl)
    | (obtain ⟨_, _, rfl⟩ := den_p hv; rfl)
    | (obtain ⟨_, _, _, rfl⟩ := den_l hv; rfl)
    | (obtain ⟨_, _, _, rfl⟩ := den_u hv; rfl)
    | (obtain ⟨_, _, _, rfl⟩ := den_ue hv; rfl)
    | (obtain ⟨_, _, rfl⟩ := den_m hv; rfl)
    | (simp only [den] at hv; split at hv <;> cases hv; rfl)
    | (simp only [den] at hv; (repeat' split at hv) <;> cases hv; assumption)
theorem allOne_one {e : Env} : ∀ {x : X} {l : List Value}, allOne x = true → denL e x = some l → ∀ v ∈ l, v.oneCell' = true := by
  intro x
  induction x with
  | cs a b _ ih =>
    intro l h hl v hv
    simp only [allOne, Bool.and_eq_true] at h
    rcases denL_cases hl with ⟨h0, _⟩ | ⟨a', b', u, m, h0, rfl, h1, h2⟩
    · cases h0
    · cases h0
      rcases List.mem_cons.1 hv with rfl | hv
      · exact oneX_one h.1 h1
      · exact ih h.2 h2 v hv
  | nl => intro l h hl v hv; simp only [denL, Option.some.injEq] at hl; subst hl; cases hv
  | _ => intro l h; simp [allOne] at h
theorem putAll_find {d : Nat} : ∀ {x : X} {tr tr' : Tr X} {j : Nat}, putAll d tr j x = some tr' → ∀ k, find tr' k = if j ≤ k ∧ k < j + xlen x then xnth x (k - j) else find tr k := by
  intro x
  induction x with
  | cs a b _ ih =>
    intro tr tr' j h k
    simp only [putAll] at h
    split at h
    · rename_i t1 ht1
      rw [ih h k, put_find _ _ _ _ _ ht1]
      have hx : xlen (.cs a b) = xlen b + 1 := rfl
      by_cases e1 : k = j
      · subst e1
        rw [if_neg (by omega), if_pos rfl, if_pos (by omega), Nat.sub_self]
        rfl
      · by_cases e2 : j + 1 ≤ k ∧ k < j + 1 + xlen b
        · rw [if_pos e2, if_pos (by omega)]
          obtain ⟨m, rfl⟩ : ∃ m, k = j + (m + 1) := ⟨k - j - 1, by omega⟩
          rw [show j + (m + 1) - (j + 1) = m by omega, show j + (m + 1) - j = m + 1 by omega]
          simp only [xnth]
        · rw [if_neg e2, if_neg e1, if_neg (by omega)]
    · cases h
  | nl =>
    intro tr tr' j h k
    simp only [putAll, Option.some.injEq] at h
    subst h
    have hx : xlen .nl = 0 := rfl
    rw [if_neg (by omega)]
  | _ => intro tr tr' j h; simp [putAll] at h
/-- A row of cells, some of them put anew. -/
theorem CellsAre.putAll {e : Env} {n : Nat} {z : X} {zn : Nat} {tr tr' : Tr X} {vs us : List Value} {x : X} {j : Nat} (hc : CellsAre e n z zn tr vs) (hx : denL e x = some us) (hj : j + us.length ≤ n) (h : AM.putAll 40 tr j x = some tr') :
    CellsAre e n z zn tr' (wr vs j us) := by
  have hl := xlen_den hx
  have hv := hc.1
  have hlen : (wr vs j us).length = n := by unfold wr; simp [hc.1]; omega
  refine ⟨hlen, fun k hk => ?_⟩
  have hf := putAll_find h k
  rw [hl] at hf
  obtain ⟨x0, v0, h1, h2, h3⟩ := hc.2 k hk
  unfold cellAt
  rw [bltT.2 hk]
  simp only [hf]
  by_cases hin : j ≤ k ∧ k < j + us.length
  · rw [if_pos hin]
    obtain ⟨xk, hxk⟩ : ∃ y, xnth x (k - j) = some y := by
      have key : ∀ {x : X} {us : List Value} {m : Nat}, denL e x = some us → m < us.length → ∃ y, xnth x m = some y := by
        intro x
        induction x with
        | cs a b _ ih =>
          intro us m hx hm
          rcases denL_cases hx with ⟨h0, _⟩ | ⟨a', b', u, l, h0, rfl, g1, g2⟩
          · cases h0
          · cases h0
            cases m with
            | zero => exact ⟨a, by simp only [xnth]⟩
            | succ m =>
              obtain ⟨y, hy⟩ := ih g2 (by simpa using hm)
              exact ⟨y, by simpa only [xnth] using hy⟩
        | nl => intro us m hx hm; simp only [denL, Option.some.injEq] at hx; subst hx; simp at hm
        | _ => intro us m hx; simp [denL] at hx
      exact key hx (by omega)
    obtain ⟨u, g1, g2⟩ := xnth_den hx hxk
    refine ⟨xk, u, by rw [hxk], g1, ?_⟩
    unfold wr
    rw [List.append_assoc, List.getElem?_append_right (by simp; omega), List.getElem?_append_left (by simp; omega)]
    have : min j vs.length = j := by have := hc.1; omega
    simpa [this] using g2
  · rw [if_neg hin]
    unfold cellAt at h1
    rw [bltT.2 hk] at h1
    refine ⟨x0, v0, h1, h2, ?_⟩
    unfold wr
    by_cases hlt : k < j
    · rw [List.append_assoc, List.getElem?_append_left (by simp; have := hc.1; omega), List.getElem?_take, if_pos hlt]; exact h3
    · rw [List.getElem?_append_right (by simp; have := hc.1; omega), List.getElem?_drop]
      rw [← h3]
      congr 1
      have := hc.1
      simp
      omega
/-- Cells from the outset. -/
theorem CellsAre.mk {e : Env} {x : X} {us : List Value} (hx : denL e x = some us) : CellsAre e us.length x us.length .lf us := by
  refine ⟨rfl, fun j hj => ?_⟩
  have key : ∀ {x : X} {us : List Value} {m : Nat}, denL e x = some us → m < us.length → ∃ y v, xnth x m = some y ∧ den e y = some v ∧ us[m]? = some v := by
    intro x
    induction x with
    | cs a b _ ih =>
      intro us m hx hm
      rcases denL_cases hx with ⟨h0, _⟩ | ⟨a', b', u, l, h0, rfl, g1, g2⟩
      · cases h0
      · cases h0
        cases m with
        | zero => exact ⟨a, u, by simp only [xnth], g1, rfl⟩
        | succ m =>
          obtain ⟨y, v, h1, h2, h3⟩ := ih g2 (by simpa using hm)
          exact ⟨y, v, by simpa only [xnth] using h1, h2, by simpa using h3⟩
    | nl => intro us m hx hm; simp only [denL, Option.some.injEq] at hx; subst hx; simp at hm
    | _ => intro us m hx; simp [denL] at hx
  obtain ⟨y, v, h1, h2, h3⟩ := key hx hj
  refine ⟨y, v, ?_, h2, h3⟩
  unfold cellAt
  rw [bltT.2 hj, find_lf]
  simp only [Nat.mod_eq_of_lt hj, h1]
end Go.AM
