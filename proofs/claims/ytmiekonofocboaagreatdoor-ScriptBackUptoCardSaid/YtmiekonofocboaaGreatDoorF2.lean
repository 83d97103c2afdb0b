/- The evaluator, part 2: memory by names, and the quiet operations. -/
import Derived.Test.YtmiekonofocboaaGreatDoorF1
import Derived.Test.YtmiekonofocboaaGreatDoorED
set_option linter.unusedVariables false
set_option linter.unusedSectionVars false
set_option linter.unusedSimpArgs false
namespace Go.AM
open Go Go.RowKit Go.Eng

/-! ### Memory -/
/-- An iterator over a map: its name, what it has not told yet, what it told last. -/
structure ItX where
  id : Nat
  left : List (X × X)
  last : Option (X × X)
inductive Blk where
  | c (t : TypeId) (sz n : Nat) (z : X) (zn : Nat) (tr : Tr X)
  | r (l : X)
  | m (es : List (X × X)) (it : Option ItX)
  | it (mid : Option Nat)
  | df
  | lp (fr : Tr X) (n : Nat) (st : LoopState) (pend : Option (Option Nat)) (df : Nat)
def Blk.ro : Blk → Bool
  | .r _ => true
  | _ => false
abbrev Hp := Tr Blk
/-- The names of the program's own variables: their blocks' numbers. -/
def EnvG (e : Env) : Prop := ∀ g, g < 1024 → ∃ z, e g = some z ∧ z.b = g ∧ z.o = 0
theorem EnvG.mono {e e' : Env} (h : e.le e') (hg : EnvG e) : EnvG e' := fun g hlt => let ⟨z, h1, h2⟩ := hg g hlt; ⟨z, h _ _ h1, h2⟩
/-- The cell at a place of what is known of a block. -/
def cellAt (n : Nat) (z : X) (zn : Nat) (tr : Tr X) (j : Nat) : Option X :=
  match Nat.blt j n with
  | true => match find tr j with
    | some x => some x
    | none => xnth z (j % zn)
  | false => none
def cellsAt (n : Nat) (z : X) (zn : Nat) (tr : Tr X) : Nat → Nat → Option X
  | 0, _ => some .nl
  | k + 1, j => match cellAt n z zn tr j, cellsAt n z zn tr k (j + 1) with
    | some x, some l => some (.cs x l)
    | _, _ => none
/-- What is known of a row of cells. -/
def CellsAre (e : Env) (n : Nat) (z : X) (zn : Nat) (tr : Tr X) (vs : List Value) : Prop :=
  vs.length = n ∧ ∀ j, j < n → ∃ x v, cellAt n z zn tr j = some x ∧ den e x = some v ∧ vs[j]? = some v
/-- Entries of a map, by their keys: as integers, or as texts. -/
def EntsAre {α : Type} (e : Env) (kx : α → X) : List (X × X) → List (α × Value) → Prop
  | [], l => l = []
  | (k, v) :: r, l => ∃ a u l', k = kx a ∧ den e v = some u ∧ l = (a, u) :: l' ∧ EntsAre e kx r l'
def keyS (b : ByteArray) : X := .s (b.data.toList.map UInt8.toNat)
/-- The slots of a frame, as they lie. -/
def Slots (e : Env) (n : Nat) (fr : Tr X) (tmps : Array Value) : Prop := tmps.size = n ∧ ∀ d x, find fr d = some x → d < n ∧ ∃ v, den e x = some v ∧ tmps.getD d undef = v
/-- A map's entries as they lie, of what an iterator has not yet told as well. -/
def MapAre (e : Env) (w : World) (b : Nat) {α : Type} [DecidableEq α] (k : α → Value) (kx : α → X) (es : List (X × X)) (it : Option ItX) (real : Array MapEntry) (clock : Nat) : Prop :=
  ∃ l l2 : List (α × Value), MapAs k real l ∧ l.Perm l2 ∧ (l2.map (·.1)).Nodup ∧ EntsAre e kx es l2 ∧ Stamped real clock ∧
    ∀ q, it = some q → ∃ zi seen, e q.id = some zi ∧ w.heap[zi.b]? = some (.mapIter (some b) clock seen clock) ∧
      (∃ lf lf2 : List (α × Value), (leftOf real seen).toList.map (fun e => (e.key, e.val)) = lf.map (fun p => (k p.1, p.2)) ∧ lf.Perm lf2 ∧ EntsAre e kx q.left lf2) ∧
      ∀ p, q.last = some p → ∃ (en : MapEntry) (s0 : Array Nat), seen = s0.push en.born ∧ en ∈ real.toList ∧ den e p.1 = some en.key ∧ den e p.2 = some en.val
/-- The jump that a round leaves pending: 'return', or out of a block. -/
def jumpC : Option (Option Nat) → Option Code
  | none => none
  | some none => some .ret
  | some (some id) => some (.exit id)
/-- Of a row of so many cells none is frozen (a mark behind them may stand). -/
def FrOk (fz : Nat × Nat) (n : Nat) : Prop := fz.2 = 0 ∨ n ≤ fz.1
def IsObj (e : Env) (w : World) (z : EE) : Blk → Obj → Prop
  | .c t sz n zz zn tr, o => sz = z.sz ∧ ∃ pre vs post fz, o = .cells (pre ++ vs ++ post).toArray t fz ∧ FrOk fz (pre ++ vs ++ post).length ∧ pre.length = z.o ∧ CellsAre e n zz zn tr vs ∧ z.o + z.c * z.sz ≤ (pre ++ vs ++ post).length ∧ (n ≤ z.c * z.sz ∨ z.sz = 0)
  | .r l, o => ∃ vs c t fr, o = .cells c t fr ∧ denL e l = some vs ∧ (∀ (j : Nat) (v : Value), vs[j]? = some v → c[j]? = some v) ∧ z.o = 0
  | .m es it, o => ∃ real clock, o = .map real clock ∧ ((∃ ik, MapAre e w z.b (Value.int ik) (X.i ik) es it real clock) ∨ MapAre e w z.b Value.string keyS es it real clock)
  | .it mid, o => z.o = 0 ∧ ∃ m s r c, o = .mapIter m s r c ∧ (mid = none → m = none)
  | .df, o => o = .deferred (some [])
  | .lp fr n st pend df, o => ∃ fn ps assign body tmps zd, z.lc = some (fn, ps, assign, body) ∧ e df = some zd ∧ Slots e n fr tmps ∧ o = .loop { state := st, pending := jumpC pend, fn := fn, tmps := tmps, params := ps, assign := assign, body := body, defers := zd.b }
/-- A memory by names fits a world; U: the names that are used. -/
structure Fit (B : World) (e : Env) (hp : Hp) (U : Nat → Prop) (w : World) : Prop where
  late : Later (fun _ => False) B w
  use : ∀ id z, e id = some z → U id
  dom : ∀ id b, find hp id = some b → e id ≠ none
  obj : ∀ id b z, find hp id = some b → e id = some z → ∃ o, w.heap[z.b]? = some o ∧ IsObj e w z b o
  own : ∀ id b z, find hp id = some b → e id = some z → b.ro = false → B.heap.size ≤ z.b
  inj : ∀ id id' b b' z z', find hp id = some b → find hp id' = some b' → e id = some z → e id' = some z' → z.b = z'.b → id = id'
  env : EnvG e
theorem Env.le_refl (e : Env) : e.le e := fun _ _ h => h
theorem Env.le_trans {a b c : Env} (h : a.le b) (k : b.le c) : a.le c := fun id z e => k id z (h id z e)
theorem CellsAre.mono {e e' : Env} (h : e.le e') {n : Nat} {z : X} {zn : Nat} {tr : Tr X} {vs : List Value} (hc : CellsAre e n z zn tr vs) : CellsAre e' n z zn tr vs :=
  ⟨hc.1, fun j hj => let ⟨x, v, h1, h2, h3⟩ := hc.2 j hj; ⟨x, v, h1, denM h h2, h3⟩⟩
theorem Slots.mono {e e' : Env} (h : e.le e') {n : Nat} {fr : Tr X} {t : Array Value} (hc : Slots e n fr t) : Slots e' n fr t :=
  ⟨hc.1, fun d x hx => let ⟨h1, v, h2, h3⟩ := hc.2 d x hx; ⟨h1, v, denM h h2, h3⟩⟩
theorem EntsAre.mono {α : Type} {e e' : Env} (h : e.le e') {kx : α → X} : ∀ {x : List (X × X)} {l : List (α × Value)}, EntsAre e kx x l → EntsAre e' kx x l
  | [], _, hl => hl
  | (_, _) :: _, _, ⟨a, u, l', h1, h2, h3, h4⟩ => ⟨a, u, l', h1, denM h h2, h3, EntsAre.mono h h4⟩
theorem MapAre.mono {e e' : Env} (h : e.le e') {w w' : World} {b : Nat} (hw : ∀ (b' s : Nat) (r : Array Nat) (c : Nat), w.heap[b']? = some (Obj.mapIter (some b) s r c) → w'.heap[b']? = w.heap[b']?) {α : Type} [DecidableEq α] {k : α → Value} {kx : α → X} {es : List (X × X)} {it : Option ItX} {real : Array MapEntry} {clock : Nat}
    (hm : MapAre e w b k kx es it real clock) : MapAre e' w' b k kx es it real clock := by
  obtain ⟨l, l2, h1, h2, h3, h4, h5, h6⟩ := hm
  refine ⟨l, l2, h1, h2, h3, h4.mono h, h5, fun q hi => ?_⟩
  obtain ⟨zi, seen, g1, g2, ⟨lf, lf2, g3, g4, g5⟩, g6⟩ := h6 q hi
  refine ⟨zi, seen, h _ _ g1, (hw _ _ _ _ g2).trans g2, ⟨lf, lf2, g3, g4, g5.mono h⟩, fun p hp => ?_⟩
  obtain ⟨en, s0, k1, k2, k3, k4⟩ := g6 p hp
  exact ⟨en, s0, k1, k2, denM h k3, denM h k4⟩
/-- What is said of a block stands as long as no iterator turns. -/
theorem IsObj.mono {e e' : Env} (h : e.le e') {w w' : World} {z : EE} (hw : ∀ (b' s : Nat) (r : Array Nat) (c : Nat), w.heap[b']? = some (Obj.mapIter (some z.b) s r c) → w'.heap[b']? = w.heap[b']?) : ∀ {b : Blk} {o : Obj}, IsObj e w z b o → IsObj e' w' z b o
  | .c t sz n zz zn tr, o, ⟨h1, pre, vs, post, fz, h2, hz, h3, h4, h5⟩ => ⟨h1, pre, vs, post, fz, h2, hz, h3, h4.mono h, h5⟩
  | .r l, o, ⟨vs, c, t, fr, h1, h2, h3⟩ => ⟨vs, c, t, fr, h1, denLM h h2, h3⟩
  | .m es it, o, ⟨real, clock, h1, h2⟩ => ⟨real, clock, h1, h2.imp (fun ⟨ik, h0⟩ => ⟨ik, MapAre.mono h hw h0⟩) (fun h0 => MapAre.mono h hw h0)⟩
  | .it _, o, h => h
  | .df, o, h => h
  | .lp fr n st pend df, o, ⟨fn, ps, assign, body, tmps, zd, h0, h1, h2, h3⟩ => ⟨fn, ps, assign, body, tmps, zd, h0, h _ _ h1, h2.mono h, h3⟩
/-- What a frame has yet to do when it leaves: the mark of a loop over a function; a deferred call. -/
inductive DM where
  | m (id : Nat)
  | c (f : FuncId) (l : X)
def Marks (e : Env) : List DM → List Deferred → Prop
  | [], l => l = []
  | .m i :: r, l => ∃ z l', e i = some z ∧ l = ⟨.collected z.b, #[]⟩ :: l' ∧ Marks e r l'
  | .c f x :: r, l => ∃ cap args l', denL e x = some (args.toList ++ cap.toList) ∧ l = ⟨.fn (.func f) cap, args⟩ :: l' ∧ Marks e r l'
theorem Marks.mono {e e' : Env} (h : e.le e') : ∀ {x : List DM} {l : List Deferred}, Marks e x l → Marks e' x l
  | [], _, hl => hl
  | .m _ :: _, _, ⟨z, l', h1, h2, h3⟩ => ⟨z, l', h _ _ h1, h2, Marks.mono h h3⟩
  | .c _ _ :: _, _, ⟨cap, args, l', h1, h2, h3⟩ => ⟨cap, args, l', denLM h h1, h2, Marks.mono h h3⟩
/-- The slots of a frame. -/
def KnX (e : Env) (n : Nat) (fr : Tr X) (dm : List DM) (a : Act) : Prop := (EnvG e ∧ Marks e dm a.defers) ∧ Slots e n fr a.tmps
theorem KnX.mono {e e' : Env} (h : e.le e') {n : Nat} {fr : Tr X} {dm : List DM} {a : Act} (hk : KnX e n fr dm a) : KnX e' n fr dm a := ⟨⟨hk.1.1.mono h, hk.1.2.mono h⟩, hk.2.mono h⟩
def putD (fr : Tr X) (d : Option Tmp) (x : X) : Option (Tr X) := match d with
  | none => some fr
  | some d => put 40 fr d (some x)
theorem putD_find {fr fr' : Tr X} {d : Option Tmp} {x : X} (h : putD fr d x = some fr') (t : Nat) : find fr' t = if d = some t then some x else find fr t := by
  cases d with
  | none => simp only [putD, Option.some.injEq] at h; subst h; simp
  | some d =>
    rw [put_find _ _ _ _ _ h]
    by_cases e : t = d
    · subst e; simp
    · rw [if_neg e, if_neg (fun c => e (Option.some.inj c).symm)]
theorem KnX.put {e : Env} {n : Nat} {fr fr' : Tr X} {dm : List DM} {a : Act} (h : KnX e n fr dm a) {d : Option Tmp} {x : X} {v : Value} (hx : den e x = some v) (hd : dok n d = true) (hf : putD fr d x = some fr') : KnX e n fr' dm (a.put d v) := by
  refine ⟨by rw [put_defers']; exact h.1, by rw [put_size]; exact h.2.1, fun t y hy => ?_⟩
  rw [putD_find hf] at hy
  rw [put_tmps]
  split at hy
  · rename_i e1
    cases hy
    have := dok_lt hd t e1
    refine ⟨this, v, hx, ?_⟩
    rw [if_pos ⟨e1, by rw [h.2.1]; exact this⟩]
  · rename_i e1
    obtain ⟨h1, u, h2, h3⟩ := h.2.2 t y hy
    refine ⟨h1, u, h2, ?_⟩
    rw [if_neg (fun c => e1 c.1)]
    exact h3

/-! ### Operands -/
def ev (fr : Tr X) : Operand → Option X
  | .tmp t => find fr t
  | .const v => xof v
  | .global g => (match Nat.blt g 1024 with
    | true => some (.p g 0)
    | false => none)
  | .func f => some (.f (.func f) .nl .nl)
theorem ev_run {e : Env} {n : Nat} {fr : Tr X} {dm : List DM} {a : Act} (h : KnX e n fr dm a) {x : Operand} {y : X} (hy : ev fr x = some y) : ∃ v, den e y = some v ∧ a.eval x = v := by
  cases x with
  | tmp t => obtain ⟨_, v, h2, h3⟩ := h.2.2 t y hy; exact ⟨v, h2, h3⟩
  | const v => exact ⟨v, xof_den hy e, rfl⟩
  | global g =>
    simp only [ev] at hy
    split at hy
    · rename_i hg
      cases hy
      obtain ⟨z, h1, h2, h3⟩ := h.1.1 g (bltT.1 hg)
      exact ⟨.pointer (some ⟨g, 0, none⟩), by simp only [den, h1, h2, h3], rfl⟩
    · cases hy
  | func f => simp only [ev, Option.some.injEq] at hy; subst hy; exact ⟨_, rfl, rfl⟩
def evs (fr : Tr X) : List Operand → Option X
  | [] => some .nl
  | x :: l => match ev fr x, evs fr l with
    | some y, some ys => some (.cs y ys)
    | _, _ => none
theorem evs_run {e : Env} {n : Nat} {fr : Tr X} {dm : List DM} {a : Act} (h : KnX e n fr dm a) : ∀ {l : List Operand} {y : X}, evs fr l = some y → ∃ vs, denL e y = some vs ∧ l.map a.eval = vs
  | [], y, hy => by simp only [evs, Option.some.injEq] at hy; subst hy; exact ⟨[], rfl, rfl⟩
  | x :: l, y, hy => by
    simp only [evs] at hy
    split at hy
    · rename_i h1 h2
      cases hy
      obtain ⟨v, g1, g2⟩ := ev_run h h1
      obtain ⟨vs, g3, g4⟩ := evs_run h h2
      exact ⟨v :: vs, by simp only [denL, g1, g3], by simp [g2, g4]⟩
    · cases hy
/-- The state of the engine in which all is known that the world holds. -/
def fullL (a : Act) : Nat → KL
  | 0 => []
  | n + 1 => (n, .v (a.tmps.getD n undef)) :: fullL a n
theorem look_full (a : Act) : ∀ (n t : Nat), Eng.look (fullL a n) t = if t < n then some (.v (a.tmps.getD t undef)) else none
  | 0, t => by simp [fullL, Eng.look]
  | n + 1, t => by
    simp only [fullL, Eng.look, look_full a n t]
    by_cases h : n = t
    · subst h; simp
    · rw [if_neg h]
      by_cases h2 : t < n
      · rw [if_pos h2, if_pos (by omega)]
      · rw [if_neg h2, if_neg (by omega)]
def fullS (a : Act) (n : Nat) (w : World) : St := ⟨fullL a n, [], fun b => w.heap[b]?, [], 0⟩
theorem full_kn {e : Env} {n : Nat} {fr : Tr X} {dm : List DM} {a : Act} (h : KnX e n fr dm a) (w : World) : Kn n (fullS a n w).L { a with defers := [] } := by
  refine ⟨rfl, h.2.1, fun d x hx => ?_⟩
  simp only [fullS, look_full] at hx
  split at hx
  · cases hx; exact ⟨by assumption, rfl⟩
  · cases hx
theorem full_sat (a : Act) (n : Nat) (w : World) : Sat ⟨w, PH.emp, fun _ => True⟩ (fullS a n w) w :=
  ⟨fun b o h => h, (fun _ h => nomatch h), List.Pairwise.nil, (fun _ h => nomatch h), List.Pairwise.nil, Later.refl _ _, (fun _ _ h => nomatch h), fun _ _ => .inr (.inl trivial)⟩
theorem ev_full {e : Env} {n : Nat} {fr : Tr X} {dm : List DM} {a : Act} (h : KnX e n fr dm a) (w : World) {x : Operand} {y : X} (hy : ev fr x = some y) : ∃ v, den e y = some v ∧ a.eval x = v ∧ evo (fullS a n w).L x = some (.v v) := by
  obtain ⟨v, h1, h2⟩ := ev_run h hy
  refine ⟨v, h1, h2, ?_⟩
  cases x with
  | tmp t =>
    simp only [evo, fullS, look_full]
    rw [if_pos (h.2.2 t y hy).1, ← h2]
    rfl
  | const u => simp only [evo]; rw [← h2]; rfl
  | global g => simp only [evo]; rw [← h2]; rfl
  | func f => simp only [evo]; rw [← h2]; rfl
theorem full_cell (a : Act) (n : Nat) (w : World) (p : Addr) : (fullS a n w).F.cell p = w.cell? p := rfl

/-! ### Quiet operations -/
abbrev Ty := Tr TD
def TyOk (P : Program) (τ : Ty) : Prop := ∀ t D, find τ t = some D → ty P t = some D
def isNat (n : Int) : Option Nat := match n with
  | .ofNat m => some m
  | .negSucc _ => none
def idxN (n : Int) (len : Nat) : Option Nat := match n with
  | .ofNat m => (match Nat.blt m len with | true => some m | false => none)
  | .negSucc _ => none
theorem idxN_idx {n : Int} {len j : Nat} (h : idxN n len = some j) : idx n len = some j := by
  unfold idxN at h
  split at h
  · rename_i m
    split at h
    · rename_i hb
      cases h
      have : j < len := bltT.1 hb
      unfold idx
      rw [if_pos (by simp only [Int.ofNat_eq_natCast]; omega)]
      rfl
    · cases h
  · cases h
def leN (n : Int) (c : Nat) : Option Nat := match n with
  | .ofNat m => (match Nat.ble m c with | true => some m | false => none)
  | .negSucc _ => none
theorem leN_ok {n : Int} {c j : Nat} (h : leN n c = some j) : 0 ≤ n ∧ n ≤ (c : Int) ∧ n.toNat = j ∧ j ≤ c := by
  unfold leN at h
  split at h
  · rename_i m
    split at h
    · rename_i hb
      cases h
      have : j ≤ c := by simpa using hb
      simp only [Int.ofNat_eq_natCast]
      refine ⟨by omega, by omega, by simp, this⟩
    · cases h
  · cases h
def sameS : List Nat → List Nat → Bool
  | [], [] => true
  | a :: l, b :: m => match Nat.beq a b with
    | true => sameS l m
    | false => false
  | _, _ => false
theorem sameS_iff : ∀ {l m : List Nat}, sameS l m = true ↔ l = m
  | [], [] => by simp [sameS]
  | [], _ :: _ => by simp [sameS]
  | _ :: _, [] => by simp [sameS]
  | a :: l, b :: m => by
    simp only [sameS]
    split
    · rename_i h
      have : a = b := by simpa using h
      subst this
      simp [sameS_iff (l := l) (m := m)]
    · rename_i h
      have : ¬ a = b := fun e => by subst e; simp at h
      simp [this]
theorem str_size (l : List Nat) : (str l).size = l.length := by simp [str, ByteArray.size]
theorem str_inj {l m : List Nat} (hl : l.all (fun n => Nat.blt n 256) = true) (hm : m.all (fun n => Nat.blt n 256) = true) : str l = str m ↔ l = m := by
  refine ⟨fun h => ?_, fun h => by rw [h]⟩
  have h1 : l.map UInt8.ofNat = m.map UInt8.ofNat := by
    have := congrArg (fun b : ByteArray => b.data.toList) h
    simpa [str] using this
  have key : ∀ {l m : List Nat}, (∀ x ∈ l, x < 256) → (∀ x ∈ m, x < 256) → l.map UInt8.ofNat = m.map UInt8.ofNat → l = m := by
    intro l
    induction l with
    | nil => intro m _ _ h; cases m <;> simp at h ⊢
    | cons a l ih =>
      intro m ha hb h
      cases m with
      | nil => simp at h
      | cons b m =>
        simp only [List.map_cons, List.cons.injEq] at h
        have h2 := congrArg UInt8.toNat h.1
        have ha' := ha a List.mem_cons_self
        have hb' := hb b List.mem_cons_self
        rw [UInt8.toNat_ofNat', UInt8.toNat_ofNat'] at h2
        rw [Nat.mod_eq_of_lt ha', Nat.mod_eq_of_lt hb'] at h2
        rw [h2, ih (fun x hx => ha x (List.mem_cons_of_mem _ hx)) (fun x hx => hb x (List.mem_cons_of_mem _ hx)) h.2]
  exact key (fun x hx => bltT.1 (List.all_eq_true.1 hl x hx)) (fun x hx => bltT.1 (List.all_eq_true.1 hm x hx)) h1
def xstr (op : BinOp) (a b : List Nat) : Option X :=
  match op with
  | .eql => some (.b (sameS a b))
  | .neq => some (.b (!sameS a b))
  | .add => (match Nat.ble (a.length + b.length) 9223372036854775807 with
    | true => some (.s (a ++ b))
    | false => none)
  | _ => none
def xeq (op : BinOp) (b : Bool) : Option X :=
  match op with
  | .eql => some (.b b)
  | .neq => some (.b (!b))
  | _ => none
/-- Flat structs, field by field. -/
def xflat (τ : Ty) (a b : X) : List Field → Option Bool
  | [] => some true
  | f :: l => if f.name = "_" then none else match find τ f.type, xnth a f.offset, xnth b f.offset, xflat τ a b l with
    | some ⟨.int _, _, _, _⟩, some (.i k x), some (.i k' y), some r => if k = k' then some (decide (x = y) && r) else none
    | some ⟨.string, _, _, _⟩, some (.s x), some (.s y), some r => some (sameS x y && r)
    | some ⟨.bool, _, _, _⟩, some (.b x), some (.b y), some r => some (decide (x = y) && r)
    | _, _, _, _ => none
/-- == on values that hold no names, by the engine's own account. -/
def xag (P : Program) (op : BinOp) (t : TypeId) (a b : X) : Option X :=
  match denL (fun _ => none) a, denL (fun _ => none) b with
  | some la, some lb => (match binv P op t (.agg la.toArray) (.agg lb.toArray) with
    | some (.bool r) => some (.b r)
    | _ => none)
  | _, _ => none
theorem xag_run {P : Program} {op : BinOp} {t : TypeId} {a b r : X} {e : Env} {la lb : List Value} (ha : denL e a = some la) (hb : denL e b = some lb) (h : xag P op t a b = some r) : ∃ v, den e r = some v ∧ binv P op t (.agg la.toArray) (.agg lb.toArray) = some v := by
  unfold xag at h
  split at h
  · rename_i la' lb' h1 h2
    have hle : Env.le (fun _ => none) e := fun _ _ h => nomatch h
    have h1 := denLM hle h1
    have h2 := denLM hle h2
    rw [ha] at h1
    rw [hb] at h2
    cases h1
    cases h2
    split at h
    · rename_i r' hr
      cases h
      exact ⟨_, rfl, hr⟩
    · cases h
  · cases h
def xbin (P : Program) (τ : Ty) (op : BinOp) (t : TypeId) (x y : X) : Option X :=
  match x, y with
  | .i k a, .i k' b => (match intv op k a k' b with
    | some v => xof1 v
    | none => none)
  | .s a, .s b => xstr op a b
  | .b a, .b b => (match find τ t with
    | some ⟨.bool, _, _, _⟩ => xeq op (decide (a = b))
    | _ => none)
  | .p0, .p0 => (match find τ t with
    | some ⟨.pointer _, _, _, _⟩ => xeq op true
    | _ => none)
  | .p _ _, .p0 => (match find τ t with
    | some ⟨.pointer _, _, _, _⟩ => xeq op false
    | _ => none)
  | .l0, .l0 => (match find τ t with
    | some ⟨.slice _, _, _, _⟩ => xeq op true
    | _ => none)
  | .l _ _ _ _, .l0 => (match find τ t with
    | some ⟨.slice _, _, _, _⟩ => xeq op false
    | _ => none)
  | .u _ _ _ _, .l0 => (match find τ t with
    | some ⟨.slice _, _, _, _⟩ => xeq op false
    | _ => none)
  | .m0, .m0 => (match find τ t with
    | some ⟨.map _ _, _, _, _⟩ => xeq op true
    | _ => none)
  | .m _, .m0 => (match find τ t with
    | some ⟨.map _ _, _, _, _⟩ => xeq op false
    | _ => none)
  | .agg a, .agg b => (match find τ t with
    | some ⟨.struct fs, _, _, _⟩ => (match P.stoodInHeld t, P.eqGuardType P.depth t, xflat τ a b fs.toList with
      | false, false, some r => xeq op r
      | _, _, _ => xag P op t a b)
    | _ => none)
  | _, _ => none
def rdX (D : TD) (l : X) (off : Nat) : Option X :=
  match isAggD D.d with
  | true => (match Nat.ble (off + D.size) (xlen l) with
    | true => some (.agg (xtake (xdrop l off) D.size))
    | false => none)
  | false => xnth l off
def fdT (τ : Ty) (t : TypeId) (f : Nat) : Option (Nat × TD) :=
  match find τ t with
  | some ⟨.struct fs, _, _, _⟩ => (match fs[f]? with
    | some fd => (match find τ fd.type with
      | some D => some (fd.offset, D)
      | none => none)
    | none => none)
  | _ => none
def ldX (τ : Ty) (hp : Hp) (t : TypeId) (id off : Nat) : Option X :=
  match find τ t, find hp id with
  | some D, some (.c _ _ n z zn tr) => (match isAggD D.d with
    | true => (match cellsAt n z zn tr D.size off with
      | some l => some (.agg l)
      | none => none)
    | false => cellAt n z zn tr off)
  | some D, some (.r l) => rdX D l off
  | _, _ => none
def bytesX : X → Option (List Nat)
  | .nl => some []
  | .cs (.i .u8 n) l => (match leN n 255, bytesX l with
    | some m, some r => some (m :: r)
    | _, _ => none)
  | _ => none
/-- The bounds of x[lo:hi], of what has so many elements, and may be cut up to so many. -/
def cutX (fr : Tr X) (len cap : Nat) (lo hi : Option Operand) : Option (Nat × Nat) :=
  match (match hi with
    | none => some len
    | some h => (match ev fr h with
      | some (.i _ n) => leN n cap
      | _ => none)) with
  | none => none
  | some h => (match (match lo with
    | none => some 0
    | some l => (match ev fr l with
      | some (.i _ n) => leN n h
      | _ => none)) with
    | none => none
    | some l => some (l, h))
def keyEq : X → X → Option Bool
  | .i k a, .i k' b => if k = k' then some (decide (a = b)) else none
  | .s a, .s b => some (sameS a b)
  | _, _ => none
/-- The value at a key: 'some none': there is none. -/
def mgetX : List (X × X) → X → Option (Option X)
  | [], _ => some none
  | (k, v) :: l, x => match keyEq k x with
    | some true => some (some v)
    | some false => mgetX l x
    | none => none
def mapX (hp : Hp) : X → Option (List (X × X))
  | .m0 => some []
  | .m id => (match find hp id with
    | some (.m es _) => some es
    | _ => none)
  | _ => none
def keyD : TypeDesc → X → Bool
  | .int ik, .i ik' _ => decide (ik = ik')
  | .string, .s _ => true
  | _, _ => false
def lkX (τ : Ty) (fr : Tr X) (hp : Hp) (t : TypeId) (x i : Operand) (ok : Bool) : Option X :=
  match find τ t, ev fr x, ev fr i with
  | some ⟨.map kt et, _, _, _⟩, some x, some k => (match find τ kt, find τ et with
    | some KD, some D => (match mapX hp x, xof D.zero, keyD KD.d k with
      | some es, some z, true => (match mgetX es k with
        | some (some v) => some (match ok with | true => .tup (.cs v (.cs (.b true) .nl)) | false => v)
        | some none => some (match ok with | true => .tup (.cs z (.cs (.b false) .nl)) | false => z)
        | none => none)
      | _, _, _ => none)
    | _, _ => none)
  | _, _, _ => none
def aq (P : Program) (τ : Ty) (fr : Tr X) (hp : Hp) : Op → Option X
  | .move x => ev fr x
  | .assign x => ev fr x
  | .pick c a b => (match ev fr c with
    | some (.b true) => ev fr a
    | some (.b false) => ev fr b
    | _ => none)
  | .binOp op t x y _ => (match ev fr x, ev fr y with
    | some a, some b => xbin P τ op t a b
    | _, _ => none)
  | .unOp op _ x => (match op, ev fr x with
    | .not, some (.b b) => some (.b (!b))
    | .neg, some (.i k n) => some (.i k (k.wrap (0 - n)))
    | _, _ => none)
  | .convert s d x => (match find τ s, find τ d, ev fr x with
    | some _, some ⟨.int k, _, _, _⟩, some (.i _ n) => some (.i k (k.wrap n))
    | some ⟨.slice e, _, _, _⟩, some ⟨.string, _, _, _⟩, some (.u id off n _) => (match find τ e, find hp id with
      | some ⟨.int .u8, _, _, _⟩, some (.c _ _ nn z zn tr) => (match cellsAt nn z zn tr n off with
        | some l => (match bytesX l with
          | some ns => some (.s ns)
          | none => none)
        | none => none)
      | _, _ => none)
    | some ⟨.slice e, _, _, _⟩, some ⟨.string, _, _, _⟩, some (.l id off n _) => (match find τ e, find hp id with
      | some ⟨.int .u8, _, _, _⟩, some (.c _ _ nn z zn tr) => (match cellsAt nn z zn tr n off with
        | some l => (match bytesX l with
          | some ns => some (.s ns)
          | none => none)
        | none => none)
      | _, _ => none)
    | _, _, _ => none)
  | .makeInterface t x => (match find τ t, ev fr x with
    | some ⟨.int _, _, _, _⟩, some y => some (.ifc t y)
    | some ⟨.string, _, _, _⟩, some y => some (.ifc t y)
    | some ⟨.struct _, _, _, _⟩, some y => some (.ifc t y)
    | _, _ => none)
  | .makeFunc fn first cap => (match evs fr first.toList, evs fr cap.toList with
    | some f, some c => some (.f fn f c)
    | _, _ => none)
  | .extract x i => (match ev fr x with
    | some (.tup vs) => xnth vs i
    | _ => none)
  | .field t x f => (match fdT τ t f, ev fr x with
    | some (off, D), some (.agg cs) => rdX D cs off
    | _, _ => none)
  | .fieldAddr t x f => (match fdT τ t f, ev fr x with
    | some (fo, D), some (.p id off) => (match Nat.beq D.size 0 with
      | true => none
      | false => some (.p id (off + fo)))
    | _, _ => none)
  | .nilCheck x => (match ev fr x with
    | some (.p id off) => some (.p id off)
    | _ => none)
  | .indexAddr t x ix => (match find τ t, ev fr x, ev fr ix with
    | some ⟨.slice e, _, _, _⟩, some (.l id off len _), some (.i _ i) => (match idxN i len, find τ e with
      | some j, some D => some (.p id (off + j * D.size))
      | _, _ => none)
    | some ⟨.slice e, _, _, _⟩, some (.u id off len _), some (.i _ i) => (match idxN i len, find τ e with
      | some j, some D => some (.p id (off + j * D.size))
      | _, _ => none)
    | some ⟨.array len e, _, _, _⟩, some (.p id off), some (.i _ i) => (match idxN i len, find τ e with
      | some j, some D => some (.p id (off + j * D.size))
      | _, _ => none)
    | _, _, _ => none)
  | .index t x ix => (match find τ t, ev fr x, ev fr ix with
    | some ⟨.string, _, _, _⟩, some (.s s), some (.i _ i) => (match idxN i s.length with
      | some j => (match s[j]? with
        | some n => some (.i .u8 n)
        | none => none)
      | none => none)
    | _, _, _ => none)
  | .load t x => (match ev fr x with
    | some (.p id off) => ldX τ hp t id off
    | _ => none)
  | .slice t x lo hi none => (match find τ t, ev fr x with
    | some ⟨.string, _, _, _⟩, some (.s s) => (match cutX fr s.length s.length lo hi with
      | some (l, h) => some (.s ((s.drop l).take (h - l)))
      | none => none)
    | some ⟨.slice e, _, _, _⟩, some (.l id off len cap) => (match cutX fr len cap lo hi, find τ e with
      | some (l, h), some D => some (.l id (match Nat.beq cap l with | true => off | false => off + l * D.size) (h - l) (cap - l))
      | _, _ => none)
    | some ⟨.slice e, _, _, _⟩, some (.u id off len k) => (match cutX fr len len lo hi, find τ e with
      | some (l, h), some D => (match Nat.beq l 0 with
        | true => some (.u id off h k)
        | false => (match Nat.blt l len with
          | true => some (.u id (off + l * D.size) (h - l) (k + l))
          | false => some (.ue id off (off + l * D.size) (k + l))))
      | _, _ => none)
    | some ⟨.slice e, _, _, _⟩, some .l0 => (match cutX fr 0 0 lo hi, find τ e with
      | some (_, _), some _ => some .l0
      | _, _ => none)
    | _, _ => none)
  | .call ⟨.builtin .len, args, tys⟩ => (match args.toList, tys.toList with
    | [x], [t] => (match find τ t, ev fr x with
      | some ⟨.string, _, _, _⟩, some (.s s) => some (.i .i64 s.length)
      | some ⟨.slice _, _, _, _⟩, some .l0 => some (.i .i64 0)
      | some ⟨.slice _, _, _, _⟩, some (.l _ _ n _) => some (.i .i64 n)
      | some ⟨.slice _, _, _, _⟩, some (.u _ _ n _) => some (.i .i64 n)
      | some ⟨.slice _, _, _, _⟩, some (.ue _ _ _ _) => some (.i .i64 0)
      | some ⟨.map _ _, _, _, _⟩, some .m0 => some (.i .i64 0)
      | some ⟨.array n _, _, _, _⟩, some _ => some (.i .i64 n)
      | _, _ => none)
    | _, _ => none)
  | _ => none
/-- A number as a text: one sign below 128. -/
def chX (τ : Ty) (fr : Tr X) (s d : TypeId) (x : Operand) : Option X :=
  match find τ s, find τ d, ev fr x with
  | some ⟨.int _, _, _, _⟩, some ⟨.string, _, _, _⟩, some (.i _ n) => (match decide (0 ≤ n ∧ n < 128) with
    | true => some (.s [n.toNat])
    | false => none)
  | _, _, _ => none
/-- An interface value held against nil. -/
def nilX (τ : Ty) (fr : Tr X) (op : BinOp) (t : TypeId) (x y : Operand) : Option X :=
  match y, find τ t, ev fr x with
  | .const .nilIface, some ⟨.interface _, _, _, _⟩, some .if0 => (match op with
    | .eql => some (.b true)
    | .neq => some (.b false)
    | _ => none)
  | .const .nilIface, some ⟨.interface _, _, _, _⟩, some (.ifc _ _) => (match op with
    | .eql => some (.b false)
    | .neq => some (.b true)
    | _ => none)
  | .const .nilFunc, some ⟨.func _ _ _, _, _, _⟩, some .f0 => (match op with
    | .eql => some (.b true)
    | .neq => some (.b false)
    | _ => none)
  | .const .nilFunc, some ⟨.func _ _ _, _, _, _⟩, some (.f _ _ _) => (match op with
    | .eql => some (.b false)
    | .neq => some (.b true)
    | _ => none)
  | _, _, _ => none
/-- A part of an array. -/
def arX (τ : Ty) (fr : Tr X) (t : TypeId) (x ix : Operand) : Option X :=
  match find τ t, ev fr x, ev fr ix with
  | some ⟨.array n e, _, _, _⟩, some (.agg l), some (.i _ i) => (match idxN i n, find τ e with
    | some j, some D => rdX D l (j * D.size)
    | _, _ => none)
  | _, _, _ => none
/-- Quiet operations, look-ups with them. -/
def aqq (P : Program) (τ : Ty) (fr : Tr X) (hp : Hp) : Op → Option X
  | .lookup t x i ok => lkX τ fr hp t x i ok
  | .convert s d x => (match chX τ fr s d x with
    | some y => some y
    | none => aq P τ fr hp (.convert s d x))
  | .index t x ix => (match arX τ fr t x ix with
    | some y => some y
    | none => aq P τ fr hp (.index t x ix))
  | .binOp op t x y z => (match nilX τ fr op t x y with
    | some y => some y
    | none => aq P τ fr hp (.binOp op t x y z))
  | op => aq P τ fr hp op
end Go.AM
