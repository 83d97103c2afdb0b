/- The evaluator, part 14: regions that draw their order, along a plan. -/
import Derived.Test.YtmiekonofocboaaGreatDoorF13
set_option linter.unusedVariables false
set_option linter.unusedSectionVars false
set_option linter.unusedSimpArgs false
namespace Go.AM
open Go Go.RowKit Go.Eng

inductive AP where
  | done
  | q (i : Nat) (p : AP)
  | br (a : AP)
  | alt (i : Nat) (js : List Nat) (p : AP) (rest : AP)
  | nil
/-- Which operations may come first. -/
def alts : AP → List Nat
  | .alt i _ _ r => i :: alts r
  | _ => []
def qkx : Op → Bool
  | .lookup _ _ _ _ => true
  | op => qkind op
def virtX (all : Array Oper) (i : Nat) : Bool :=
  match all[i]? with
  | none => false
  | some o => qkx o.op && (match o.dst with
    | none => true
    | some d => (List.range all.size).all fun k => match all[k]? with
      | none => true
      | some p => !(p.looksAt all).contains d || (preds p).contains i)
def chainy : AP → Bool
  | .alt _ _ _ _ => true
  | .nil => true
  | _ => false
def apOK (all : Array Oper) : List Nat → List Nat → AP → Bool
  | D, _, .done => (List.range all.size).all D.contains
  | D, V, .q i p => !D.contains i && decide (i < all.size) && predsIn all D i && virtX all i && !chainy p && apOK all (i :: D) (i :: V) p
  | D, V, .br a => !(alts a).isEmpty && readyIn all D (alts a) && chainy a && apOK all D V a
  | D, V, .alt i js p r => !D.contains i && decide (i < all.size) && predsIn all D i && effOKs all V i js && !chainy p && apOK all (i :: D) V p && apOK all D V r && chainy r
  | _, _, .nil => true
/-- A quiet operation's value, its guard with it. -/
def qval (P : Program) (τ : Ty) (all : Array Oper) (s : Sg) (o : Oper) : Option X :=
  match o.guard with
  | none => aqq P τ s.fr s.hp o.op
  | some (j, want) => (match agv all s.fr j want with
    | some b => (match b == want with
      | true => aqq P τ s.fr s.hp o.op
      | false => some undX)
    | none => none)
section
def sameX : X → X → Bool
  | .b x, .b y => x == y
  | .i k x, .i k' y => decide (k = k') && decide (x = y)
  | .s x, .s y => sameS x y
  | .p0, .p0 => true
  | .p a b, .p c d => Nat.beq a c && Nat.beq b d
  | .l0, .l0 => true
  | .l a b c d, .l a' b' c' d' => Nat.beq a a' && Nat.beq b b' && Nat.beq c c' && Nat.beq d d'
  | .u a b c d, .u a' b' c' d' => Nat.beq a a' && Nat.beq b b' && Nat.beq c c' && Nat.beq d d'
  | .ue a b c d, .ue a' b' c' d' => Nat.beq a a' && Nat.beq b b' && Nat.beq c c' && Nat.beq d d'
  | .m0, .m0 => true
  | .m a, .m b => Nat.beq a b
  | .f fn a b, .f fn' a' b' => decide (fn = fn') && sameX a a' && sameX b b'
  | .fy a, .fy b => Nat.beq a b
  | .f0, .f0 => true
  | .ifc t v, .ifc t' v' => Nat.beq t t' && sameX v v'
  | .if0, .if0 => true
  | .agg a, .agg b => sameX a b
  | .tup a, .tup b => sameX a b
  | .v a, .v b => Nat.beq a b
  | .nl, .nl => true
  | .cs a b, .cs a' b' => sameX a a' && sameX b b'
  | _, _ => false
theorem sameX_eq : ∀ {x y : X}, sameX x y = true → x = y := by
  intro x
  induction x with
  | f fn a b iha ihb =>
    intro y h
    cases y <;> simp only [sameX, Bool.and_eq_true, decide_eq_true_eq] at h <;> first | (cases h; done) | skip
    obtain ⟨⟨h1, h2⟩, h3⟩ := h
    rw [h1, iha h2, ihb h3]
  | ifc t v ih =>
    intro y h
    cases y <;> simp only [sameX, Bool.and_eq_true] at h <;> first | (cases h; done) | skip
    rw [beqT.1 h.1, ih h.2]
  | agg a ih =>
    intro y h
    cases y <;> simp only [sameX] at h <;> first | (cases h; done) | skip
    rw [ih h]
  | tup a ih =>
    intro y h
    cases y <;> simp only [sameX] at h <;> first | (cases h; done) | skip
    rw [ih h]
  | cs a b iha ihb =>
    intro y h
    cases y <;> simp only [sameX, Bool.and_eq_true] at h <;> first | (cases h; done) | skip
    rw [iha h.1, ihb h.2]
  | _ =>
    intro y h
    cases y <;> simp only [sameX, Bool.and_eq_true, decide_eq_true_eq, beq_iff_eq, sameS_iff, beqT] at h <;> first | (cases h; done) | rfl | (obtain ⟨⟨⟨rfl, rfl⟩, rfl⟩, rfl⟩ := h; rfl) | (obtain ⟨rfl, rfl⟩ := h; rfl) | (subst h; rfl)
end
/-- These quiet operations give what they gave. -/
def qagain (P : Program) (τ : Ty) (all : Array Oper) (s : Sg) : List Nat → Bool
  | [] => true
  | j :: js => (match all[j]? with
    | some o => (match qval P τ all s o, o.dst with
      | some y, some d => (match find s.fr d with
        | some z => sameX y z
        | none => false)
      | _, _ => false)
    | none => false) && qagain P τ all s js
/-! States that are the same are one. -/
def sameO {α : Type} (f : α → α → Bool) : Option α → Option α → Bool
  | none, none => true
  | some a, some b => f a b
  | _, _ => false
def sameT {α : Type} (f : α → α → Bool) : Tr α → Tr α → Bool
  | .lf, .lf => true
  | .nd l v r, .nd l' v' r' => sameO f v v' && sameT f l l' && sameT f r r'
  | _, _ => false
theorem sameO_eq {α : Type} {f : α → α → Bool} (hf : ∀ a b, f a b = true → a = b) : ∀ {x y : Option α}, sameO f x y = true → x = y
  | none, none, _ => rfl
  | some a, some b, h => by rw [hf a b h]
  | none, some _, h => nomatch h
  | some _, none, h => nomatch h
theorem sameT_eq {α : Type} {f : α → α → Bool} (hf : ∀ a b, f a b = true → a = b) : ∀ {x y : Tr α}, sameT f x y = true → x = y
  | .lf, .lf, _ => rfl
  | .nd l v r, .nd l' v' r', h => by
    simp only [sameT, Bool.and_eq_true] at h
    rw [sameO_eq hf h.1.1, sameT_eq hf h.1.2, sameT_eq hf h.2]
  | .lf, .nd _ _ _, h => nomatch h
  | .nd _ _ _, .lf, h => nomatch h
def sameP : List (X × X) → List (X × X) → Bool
  | [], [] => true
  | p :: l, q :: m => sameX p.1 q.1 && sameX p.2 q.2 && sameP l m
  | _, _ => false
theorem sameP_eq : ∀ {l m : List (X × X)}, sameP l m = true → l = m
  | [], [], _ => rfl
  | (a, b) :: l, (c, d) :: m, h => by
    simp only [sameP, Bool.and_eq_true] at h
    rw [sameX_eq h.1.1, sameX_eq h.1.2, sameP_eq h.2]
  | [], _ :: _, h => nomatch h
  | _ :: _, [], h => nomatch h
def sameXX (p q : X × X) : Bool := sameX p.1 q.1 && sameX p.2 q.2
theorem sameXX_eq (p q : X × X) (h : sameXX p q = true) : p = q := by
  obtain ⟨a, b⟩ := p
  obtain ⟨c, d⟩ := q
  simp only [sameXX, Bool.and_eq_true] at h
  rw [sameX_eq h.1, sameX_eq h.2]
def sameI (p q : ItX) : Bool := Nat.beq p.id q.id && sameP p.left q.left && sameO sameXX p.last q.last
theorem sameI_eq (p q : ItX) (h : sameI p q = true) : p = q := by
  obtain ⟨a, b, c⟩ := p
  obtain ⟨a', b', c'⟩ := q
  simp only [sameI, Bool.and_eq_true] at h
  rw [beqT.1 h.1.1, sameP_eq h.1.2, sameO_eq sameXX_eq h.2]
def sameB : Blk → Blk → Bool
  | .c t sz n z zn tr, .c t' sz' n' z' zn' tr' => Nat.beq t t' && Nat.beq sz sz' && Nat.beq n n' && Nat.beq zn zn' && sameX z z' && sameT sameX tr tr'
  | .r l, .r l' => sameX l l'
  | .m es it, .m es' it' => sameP es es' && sameO sameI it it'
  | .it m, .it m' => decide (m = m')
  | .df, .df => true
  | .lp fr n st pend df, .lp fr' n' st' pend' df' => sameT sameX fr fr' && Nat.beq n n' && decide (st = st') && decide (pend = pend') && Nat.beq df df'
  | _, _ => false
theorem sameB_eq (x y : Blk) (h : sameB x y = true) : x = y := by
  cases x <;> cases y <;> simp only [sameB, Bool.and_eq_true, decide_eq_true_eq] at h <;> first | (cases h; done) | rfl | skip
  · obtain ⟨⟨⟨⟨⟨h1, h2⟩, h3⟩, h4⟩, h5⟩, h6⟩ := h
    rw [beqT.1 h1, beqT.1 h2, beqT.1 h3, beqT.1 h4, sameX_eq h5, sameT_eq (fun a b => sameX_eq) h6]
  · rw [sameX_eq h]
  · rw [sameP_eq h.1, sameO_eq sameI_eq h.2]
  · rw [h]
  · obtain ⟨⟨⟨⟨h1, h2⟩, h3⟩, h4⟩, h5⟩ := h
    rw [sameT_eq (fun a b => sameX_eq) h1, beqT.1 h2, h3, h4, beqT.1 h5]
def sameD : List DM → List DM → Bool
  | [], [] => true
  | .m i :: r, .m j :: s => Nat.beq i j && sameD r s
  | .c f x :: r, .c g y :: s => decide (f = g) && sameX x y && sameD r s
  | _, _ => false
theorem sameD_eq : ∀ {x y : List DM}, sameD x y = true → x = y
  | [], [], _ => rfl
  | .m i :: r, .m j :: s, h => by
    simp only [sameD, Bool.and_eq_true] at h
    rw [beqT.1 h.1, sameD_eq h.2]
  | .c f x :: r, .c g y :: s, h => by
    simp only [sameD, Bool.and_eq_true, decide_eq_true_eq] at h
    rw [h.1.1, sameX_eq h.1.2, sameD_eq h.2]
  | [], .m _ :: _, h => by simp [sameD] at h
  | [], .c _ _ :: _, h => by simp [sameD] at h
  | .m _ :: _, [], h => by simp [sameD] at h
  | .c _ _ :: _, [], h => by simp [sameD] at h
  | .m _ :: _, .c _ _ :: _, h => by simp [sameD] at h
  | .c _ _ :: _, .m _ :: _, h => by simp [sameD] at h
def sameG (x y : Sg) : Bool := Nat.beq x.nx y.nx && sameD x.dm y.dm && sameT sameX x.fr y.fr && sameT sameB x.hp y.hp
theorem sameG_eq (x y : Sg) (h : sameG x y = true) : x = y := by
  obtain ⟨a, b, c, d⟩ := x
  obtain ⟨a', b', c', d'⟩ := y
  simp only [sameG, Bool.and_eq_true, decide_eq_true_eq] at h
  obtain ⟨⟨⟨h1, h2⟩, h3⟩, h4⟩ := h
  rw [beqT.1 h1, sameD_eq h2, sameT_eq (fun a b => sameX_eq) h3, sameT_eq sameB_eq h4]
def dd : List Sg → List Sg
  | [] => []
  | [s] => [s]
  | s :: l => match (dd l).any (sameG s) with
    | true => dd l
    | false => s :: dd l
theorem dd_mem : ∀ {l : List Sg} {s : Sg}, s ∈ l → s ∈ dd l
  | [s], t, h => h
  | s :: r :: l, t, h => by
    simp only [dd]
    split
    · rename_i ha
      rcases List.mem_cons.1 h with rfl | h
      · obtain ⟨y, hy, e⟩ := List.any_eq_true.1 ha
        have := sameG_eq _ _ e
        subst this
        exact hy
      · exact dd_mem h
    · rcases List.mem_cons.1 h with rfl | h
      · exact List.mem_cons_self
      · exact List.mem_cons_of_mem _ (dd_mem h)
def apl (P : Program) (τ : Ty) (cf cr : CallF) (n : Nat) (all : Array Oper) (base : Nat) : AP → Sg → Option (List Sg)
  | .done, s => some [s]
  | .q i p, s => (match all[i]? with
    | some o => (match dok n o.dst, qval P τ all s o with
      | true, some y => (match putD s.fr o.dst y with
        | some fr' => apl P τ cf cr n all base p ⟨fr', s.dm, s.hp, s.nx⟩
        | none => none)
      | _, _ => none)
    | none => none)
  | .br a, s => (match apl P τ cf cr n all base a s with
    | some l => some (dd l)
    | none => none)
  | .alt i js p r, s => (match all[i]? with
    | some o => (match aop P τ cf cr n all (base + i) o s with
      | some ss => (match bindS (fun s' => match qagain P τ all s' js with
          | true => apl P τ cf cr n all base p s'
          | false => none) ss, apl P τ cf cr n all base r s with
        | some a, some b => some (a ++ b)
        | _, _ => none)
      | none => none)
    | none => none)
  | .nil, _ => some []

section
variable {P : Program} {ro : Option Nat} {B : World} {n base : Nat} {τ : Ty} {all : Array Oper} {cf cr : CallF} {e : Env} {U U0 : Nat → Prop} {s : Sg}
def qst (P : Program) (τ : Ty) (all : Array Oper) (s : Sg) (i : Nat) (y : X) : Prop := ∃ o, all[i]? = some o ∧ qkx o.op = true ∧ qval P τ all s o = some y
theorem ev_congr {fr fr' : Tr X} {x : Operand} (h : ∀ t, x = .tmp t → find fr' t = find fr t) : ev fr' x = ev fr x := by
  cases x <;> first | exact h _ rfl | rfl
theorem evs_congr {fr fr' : Tr X} : ∀ {l : List Operand}, (∀ x ∈ l, ev fr' x = ev fr x) → evs fr' l = evs fr l
  | [], _ => rfl
  | x :: l, h => by
    have e := evs_congr (l := l) fun y hy => h y (List.mem_cons_of_mem _ hy)
    simp only [evs, h x List.mem_cons_self, e]
theorem cutX_congr {fr fr' : Tr X} {len cap : Nat} {lo hi : Option Operand} (h : ∀ x, lo = some x ∨ hi = some x → ev fr' x = ev fr x) : cutX fr' len cap lo hi = cutX fr len cap lo hi := by
  unfold cutX
  cases lo <;> cases hi <;> simp [h]
theorem aqq_congr {fr fr' : Tr X} {hp : Hp} {op : Op} (hq : qkx op = true) (h : ∀ x ∈ op.operands, ev fr' x = ev fr x) : aqq P τ fr' hp op = aqq P τ fr hp op := by
  cases op with
  | lookup t x i ok =>
    simp only [aqq, lkX]
    rw [h x (by simp [Op.operands]), h i (by simp [Op.operands])]
  | index t x ix =>
    simp only [aqq, arX, aq]
    rw [h x (by simp [Op.operands]), h ix (by simp [Op.operands])]
  | binOp op t x y z =>
    simp only [aqq, nilX, aq]
    rw [h x (by simp [Op.operands]), h y (by simp [Op.operands])]
  | convert s d x =>
    simp only [aqq, chX, aq]
    rw [h x (by simp [Op.operands])]
  | slice t x lo hi mx =>
    cases mx with
    | some _ => rfl
    | none =>
      have hc : ∀ len cap, cutX fr' len cap lo hi = cutX fr len cap lo hi := fun len cap => cutX_congr fun z hz => h z (by
        rcases hz with rfl | rfl <;> simp [Op.operands])
      simp only [aqq, aq, hc]
      rw [h x (by simp [Op.operands])]
  | call c =>
    obtain ⟨callee, args, tys⟩ := c
    cases callee with
    | builtin b =>
      cases b <;> first
        | rfl
        | (simp only [aqq, aq]
           split
           · rename_i e1 e2
             have : ev fr' _ = ev fr _ := h _ (by simp [Op.operands, Call.operands]; rw [← Array.mem_toList_iff, e1]; exact List.mem_cons_self)
             rw [this]
           · rfl)
    | _ => rfl
  | makeFunc fn first cap =>
    simp only [aqq, aq]
    rw [evs_congr (fr := fr) fun x hx => h x (by simp [Op.operands]; exact .inl (by simpa using hx)), evs_congr (fr := fr) fun x hx => h x (by simp [Op.operands]; exact .inr (by simpa using hx))]
  | _ =>
    first
      | rfl
      | (simp only [Op.operands] at h
         simp only [aqq, aq]
         (repeat rw [h _ (by simp)]))
theorem agv_congr {fr fr' : Tr X} {o : Oper} {j : Nat} {want : Bool} (hg : o.guard = some (j, want)) (hL : ∀ t ∈ o.looksAt all, find fr' t = find fr t) : agv all fr' j want = agv all fr j want := by
  unfold agv
  cases hj : all[j]? with
  | none => rfl
  | some oj =>
    simp only
    cases hd : oj.dst with
    | none => rfl
    | some d => simp only; rw [hL d (looks_guard hg hj hd)]
theorem qval_congr {s' : Sg} {o : Oper} (hq : qkx o.op = true) (hh : s'.hp = s.hp) (hL : ∀ t ∈ o.looksAt all, find s'.fr t = find s.fr t) : qval P τ all s' o = qval P τ all s o := by
  have hop : aqq P τ s'.fr s'.hp o.op = aqq P τ s.fr s.hp o.op := by
    rw [hh]; exact aqq_congr hq fun x hx => ev_congr fun t ht => hL t (looks_op (ht ▸ hx))
  unfold qval
  cases hg : o.guard with
  | none => exact hop
  | some p => obtain ⟨j, want⟩ := p; simp only [agv_congr hg hL, hop]
theorem qst_move {s' : Sg} {i : Nat} {o : Oper} {y : X} (ho : all[i]? = some o) (h : qst P τ all s i y) (hh : s'.hp = s.hp) (hL : ∀ t ∈ o.looksAt all, find s'.fr t = find s.fr t) : qst P τ all s' i y := by
  obtain ⟨o', ho', hq, hm⟩ := h
  rw [ho] at ho'
  cases ho'
  exact ⟨o, ho, hq, by rw [qval_congr hq hh hL]; exact hm⟩
theorem virtX_at {i k : Nat} {o p : Oper} (hv : virtX all i = true) (hi : all[i]? = some o) (hk : all[k]? = some p) {d : Tmp} (hd : o.dst = some d) (hm : d ∈ p.looksAt all) : i ∈ preds p := by
  have hkl : k < all.size := (Array.getElem?_eq_some_iff.1 hk).1
  unfold virtX at hv
  rw [hi] at hv
  simp only [hd, Bool.and_eq_true] at hv
  have h2 := List.all_eq_true.1 hv.2 k (by simpa using hkl)
  rw [hk] at h2
  simp only [Bool.or_eq_true] at h2
  rcases h2 with h | h
  · rw [Bool.not_eq_true', List.contains_eq_mem, decide_eq_false_iff_not] at h
    exact absurd hm h
  · simpa using h
theorem virtX_q {i : Nat} {o : Oper} (hv : virtX all i = true) (hi : all[i]? = some o) : qkx o.op = true := by
  unfold virtX at hv
  rw [hi] at hv
  simp only [Bool.and_eq_true] at hv
  exact hv.1
theorem qkx_defer {o : Oper} (h : qkx o.op = true) : ∀ c, o.op ≠ .defer c := by
  intro c hc; rw [hc] at h; cases h

/-- What holds in the middle of a region: D: done, or as good as done; V: those of D that may be still to come, for they are quiet; a': the frame in which all of D are done. -/
structure J (P : Program) (τ : Ty) (B : World) (n : Nat) (U0 : Nat → Prop) (base : Nat) (all : Array Oper) (D V : List Nat) (e : Env) (U : Nat → Prop) (s : Sg) (fuel : Nat) (listed : Array Bool) (a a' : Act) (w : World) : Prop where
  size : listed.size = all.size
  fuel : fuel = (List.range all.size).countP (fun i => !listed.getD i true)
  sub : ∀ i, i < all.size → listed.getD i true = true → i ∈ D
  eff : ∀ i, i ∈ D → i ∉ V → listed.getD i true = true
  vd : ∀ i ∈ V, i ∈ D
  dlt : ∀ i ∈ D, i < all.size
  cl : ∀ i ∈ D, predsIn all D i = true
  kn : KnX e n s.fr s.dm a'
  df : a.defers = a'.defers
  sz : a.tmps.size = n
  same : ∀ t, (∀ i o, i ∈ V → listed.getD i true = false → all[i]? = some o → o.dst ≠ some t) → a.tmps.getD t undef = a'.tmps.getD t undef
  pend : ∀ i, i ∈ V → listed.getD i true = false → virtX all i = true ∧ ∃ y, qst P τ all s i y ∧ ∀ o d, all[i]? = some o → o.dst = some d → d < n ∧ find s.fr d = some y
  fit : Fit B e s.hp U w
  names : Names U0 base all.size D U s.nx
  lc : ∀ k p, all[k]? = some p → listed.getD k false = true → ∀ j ∈ preds p, listed.getD j false = true
def Goes (P : Program) (τ : Ty) (ro : Option Nat) (B : World) (n : Nat) (U0 : Nat → Prop) (base : Nat) (Q : Exit → Act → World → Prop) (all : Array Oper) (D V : List Nat) (e : Env) (U : Nat → Prop) (s : Sg) : Prop :=
  ∀ fuel listed a a' w, J P τ B n U0 base all D V e U s fuel listed a a' w → wpAnyIn (WF ro) 0 P .any all Q fuel listed a w
theorem J.lcs {D V : List Nat} {fuel : Nat} {listed : Array Bool} {a a' : Act} {w : World} (h : J P τ B n U0 base all D V e U s fuel listed a a' w) {i : Nat} {o : Oper} (ho : all[i]? = some o) (hr : ∀ j ∈ preds o, listed.getD j false = true) :
    ∀ k p, all[k]? = some p → (listed.setIfInBounds i true).getD k false = true → ∀ j ∈ preds p, (listed.setIfInBounds i true).getD j false = true := by
  have mono : ∀ j, listed.getD j false = true → (listed.setIfInBounds i true).getD j false = true := fun j hj => by
    by_cases e : j = i
    · subst e
      have := (getD_lt hj).1
      simp [Array.getD, this]
    · rw [set_getD e]; exact hj
  intro k p hp hk j hj
  by_cases e : k = i
  · subst e
    rw [ho] at hp
    cases hp
    exact mono j (hr j hj)
  · rw [set_getD e] at hk
    exact mono j (h.lc k p hp hk j hj)
theorem J.looks {D V : List Nat} {fuel : Nat} {listed : Array Bool} {a a' : Act} {w : World} (h : J P τ B n U0 base all D V e U s fuel listed a a' w) {i : Nat} {o : Oper} (ho : all[i]? = some o) (hr : ∀ j ∈ preds o, listed.getD j false = true) {t : Tmp} (ht : t ∈ o.looksAt all) : a.tmps.getD t undef = a'.tmps.getD t undef := by
  refine h.same t fun j p hj hu hp hd => ?_
  have hv := (h.pend j hj hu).1
  have := hr j (virtX_at hv hp ho hd ht)
  rw [(getD_lt this).2] at hu
  cases hu
theorem J.eval {D V : List Nat} {fuel : Nat} {listed : Array Bool} {a a' : Act} {w : World} (h : J P τ B n U0 base all D V e U s fuel listed a a' w) {i : Nat} {o : Oper} (ho : all[i]? = some o) (hr : ∀ j ∈ preds o, listed.getD j false = true) : ∀ x ∈ o.op.operands, a.eval x = a'.eval x := by
  intro x hx
  cases x with
  | tmp t => exact h.looks ho hr (looks_op hx)
  | _ => rfl
theorem J.wanted {D V : List Nat} {fuel : Nat} {listed : Array Bool} {a a' : Act} {w : World} (h : J P τ B n U0 base all D V e U s fuel listed a a' w) {i : Nat} {o : Oper} (ho : all[i]? = some o) (hr : ∀ j ∈ preds o, listed.getD j false = true) : Region.wanted o (yielded all a.tmps) = Region.wanted o (yielded all a'.tmps) := by
  unfold Region.wanted
  cases hg : o.guard with
  | none => rfl
  | some p =>
    obtain ⟨j, want⟩ := p
    simp only
    have : yielded all a.tmps j = yielded all a'.tmps j := by
      unfold yielded
      cases hj : all[j]? with
      | none => rfl
      | some oj =>
        simp only [Option.bind_some]
        cases hd : oj.dst with
        | none => rfl
        | some d =>
          simp only [Option.bind_some]
          have h1 := h.looks ho hr (looks_guard hg hj hd)
          have h2 := h.kn.2.1
          by_cases hlt : d < n
          · have e1 : a.tmps[d]? = a'.tmps[d]? := by
              rw [Array.getElem?_eq_getElem (by rw [h.sz]; exact hlt), Array.getElem?_eq_getElem (by rw [h2]; exact hlt)]
              simp only [Array.getD, h.sz, h2, hlt, dite_true] at h1
              exact congrArg some h1
            rw [e1]
          · rw [Array.getElem?_eq_none (by rw [h.sz]; exact Nat.le_of_not_lt hlt), Array.getElem?_eq_none (by rw [h2]; exact Nat.le_of_not_lt hlt)]
    rw [this]
/-- What an operation does from one frame on it does from another that shows it the same. -/
theorem wpIn_shift {o : Oper} {a a' : Act} {w : World} {T : Value → World → Prop} (hs : isSel o.op = false) (hnd : ∀ c, o.op ≠ .defer c) (he : ∀ x ∈ o.op.operands, a.eval x = a'.eval x) (hd : ∀ d, o.dst = some d → d < a'.tmps.size)
    (h : ∀ (K : Act → World → Prop) (Q : Exit → Act → World → Prop), (∀ v w', T v w' → K (a'.put o.dst v) w') → o.wpIn (WF ro) 0 P a' w K Q) (K : Act → World → Prop) (Q : Exit → Act → World → Prop) (hK : ∀ v w', T v w' → K (a.put o.dst v) w') : o.wpIn (WF ro) 0 P a w K Q := by
  have h0 := h (fun a'' w'' => ∃ v, a'' = a'.put o.dst v ∧ T v w'') (fun _ _ _ => False) (fun v w' ht => ⟨v, rfl, ht⟩)
  have hinj : ∀ v w'', (∃ v', a'.put o.dst v = a'.put o.dst v' ∧ T v' w'') → K (a.put o.dst v) w'' := by
    rintro v w'' ⟨v', e, ht⟩
    cases hdd : o.dst with
    | none => have := hK v' w'' ht; rw [hdd] at this; exact this
    | some d =>
      have hlt := hd d hdd
      have e2 : v = v' := by
        have := congrArg (fun x : Act => x.tmps.getD d undef) e
        simp only [put_tmps, hdd, hlt, and_self, if_true] at this
        exact this
      subst e2
      have := hK v w'' ht
      rw [hdd] at this
      exact this
  have hns : ∀ cs b, o.op ≠ .select cs b := fun cs b e => by rw [e] at hs; cases hs
  unfold Oper.wpIn at h0 ⊢
  refine ⟨fun _ _ => trivial, ?_⟩
  have h0 := h0.2
  rw [Oper.semAt_eq _ _ _ hnd] at h0 ⊢
  rw [execOp_congr o hns he]
  generalize (execOp a'.eval o).run P w = r at h0
  cases r with
  | ok x w' =>
    cases x with
    | value v => exact hinj v w' h0
    | skip => exact hinj undef w' h0
    | defer d =>
      obtain ⟨v, e, _⟩ := h0
      have := congrArg Act.defers e
      rw [put_defers', put_defers'] at this
      have := congrArg List.length this
      simp at this
    | enter f args =>
      refine ⟨h0.1, CallsIn.mono h0.2 fun e w'' he => ?_⟩
      cases e with
      | returned v => exact hinj v w'' he
      | panicked ch => exact he.elim
      | outgrown => obtain ⟨_, _, h⟩ := he; exact h.elim
    | row r args => exact ⟨h0.1, RowsIn.mono h0.2 fun v w'' he => hinj v w'' he⟩
    | round l f tmps assign body =>
      refine ⟨h0.1, RoundIn.mono h0.2 fun e w'' he => ?_⟩
      cases e with
      | returned v => exact hinj v w'' he
      | panicked ch => exact he.elim
      | outgrown => obtain ⟨_, _, h⟩ := he; exact h.elim
    | _ => exact h0.elim
  | halt x w' => cases x <;> exact h0.elim
theorem dst_keep (hOK : drawOK all = true) {i j : Nat} {o p : Oper} (hi : all[i]? = some o) (hj : all[j]? = some p) (hne : i ≠ j) {d : Tmp} (hd : p.dst = some d) : o.dst ≠ some d := by
  rcases (drawOK_at hOK hi hj hd).2 with h | h
  · exact absurd h hne
  · exact h
theorem J.pstep {Q : Exit → Act → World → Prop} {D V : List Nat} {fuel : Nat} {listed : Array Bool} {a a' : Act} {w : World} (hτ : TyOk P τ) (h : J P τ B n U0 base all D V e U s (fuel + 1) listed a a' w) {i : Nat} (hi : i ∈ Region.ready .any all listed) (hV : i ∈ V)
    {K : Act → World → Prop} (hK : ∀ a1, J P τ B n U0 base all D V e U s fuel (listed.setIfInBounds i true) a1 a' w → K a1 w) : wpOpIn (WF ro) 0 P all Q i K a w := by
  obtain ⟨hil, hu, o, ho, hr⟩ := ready_mem hi
  obtain ⟨hv, y, ⟨o', ho', hq, hm⟩, hlook⟩ := h.pend i hV hu
  rw [ho] at ho'
  cases ho'
  have hnext : ∀ v, den e y = some v → K (a.put o.dst v) w := by
    intro v hyv
    refine hK _ ⟨by simpa using h.size, countP_set h.size hil hu h.fuel, fun j hj hl => ?_, fun j hj hn => ?_, h.vd, h.dlt, h.cl, h.kn, by rw [put_defers']; exact h.df, by rw [put_size]; exact h.sz, fun t ht => ?_, fun j hj hl => ?_, h.fit, h.names, h.lcs ho hr⟩
    · by_cases e : j = i
      · subst e; exact h.vd _ hV
      · rw [set_getD e] at hl; exact h.sub j hj hl
    · by_cases e : j = i
      · subst e; exact set_getD_self
      · rw [set_getD e]; exact h.eff j hj hn
    · rw [put_tmps]
      by_cases e1 : o.dst = some t
      · obtain ⟨g1, g2⟩ := hlook o t ho e1
        rw [if_pos ⟨e1, by rw [h.sz]; exact g1⟩]
        obtain ⟨_, v', k1, k2⟩ := h.kn.2.2 _ _ g2
        rw [hyv] at k1
        cases k1
        exact k2.symm
      · rw [if_neg (fun c => e1 c.1)]
        refine h.same t fun j p hj hl hp => ?_
        by_cases e2 : j = i
        · subst e2; rw [ho] at hp; cases hp; exact e1
        · exact ht j p hj (by rw [set_getD e2]; exact hl) hp
    · refine h.pend j hj ?_
      by_cases e : j = i
      · subst e; rw [set_getD_self] at hl; cases hl
      · rw [set_getD e] at hl; exact hl
  have hrun : aqq P τ s.fr s.hp o.op = some y → o.wpIn (WF ro) 0 P a w K Q := fun hqv => by
    obtain ⟨v, g1, g2⟩ := aqq_run hτ h.kn h.fit hqv
    refine wpIn_value (qkx_defer hq) (v := v) (w' := w) ?_ (hnext v g1)
    rw [execOp_congr o (fun cs b e => by rw [e] at hq; cases hq) (h.eval ho hr)]
    exact g2
  unfold wpOpIn
  rw [ho]
  simp only
  rw [h.wanted ho hr]
  unfold qval at hm
  split at hm
  · rename_i hg
    rw [if_pos (by simp [Region.wanted, hg])]
    exact hrun hm
  · rename_i j want hg
    split at hm
    · rename_i b hb
      have hy := agv_run h.kn hb
      split at hm
      · rename_i e1
        rw [if_pos (by simpa [Region.wanted, hg, hy] using e1)]
        exact hrun hm
      · rename_i e1
        rw [if_neg (by simpa [Region.wanted, hg, hy] using e1)]
        cases hm
        exact ⟨fun _ _ => trivial, hnext undef (undX_den e)⟩
    · cases hm
theorem predsIn_mono {D : List Nat} {i k : Nat} (hk : predsIn all D k = true) : predsIn all (i :: D) k = true := by
  unfold predsIn at hk ⊢
  split
  · rename_i e; rw [e] at hk; exact hk
  · rename_i p e
    rw [e] at hk
    refine List.all_eq_true.2 fun x hx => ?_
    have := List.all_eq_true.1 hk x hx
    simp only [List.contains_eq_mem, decide_eq_true_eq] at this ⊢
    exact List.mem_cons_of_mem _ this
theorem J.virt {D V : List Nat} {fuel : Nat} {listed : Array Bool} {a a' : Act} {w : World} (hτ : TyOk P τ) (hOK : drawOK all = true) (h : J P τ B n U0 base all D V e U s fuel listed a a' w) {i : Nat} {o : Oper} {y : X} {fr' : Tr X} (ho : all[i]? = some o) (hD : i ∉ D) (hp : predsIn all D i = true) (hv : virtX all i = true)
    (hd : dok n o.dst = true) (hq : qst P τ all s i y) (hfr : putD s.fr o.dst y = some fr') : ∃ v, J P τ B n U0 base all (i :: D) (i :: V) e U ⟨fr', s.dm, s.hp, s.nx⟩ fuel listed a (a'.put o.dst v) w := by
  have hil : i < all.size := (Array.getElem?_eq_some_iff.1 ho).1
  have hli : listed.getD i true = false := by
    cases e1 : listed.getD i true with
    | false => rfl
    | true => exact absurd (h.sub i hil e1) hD
  have hlook : ∀ t, o.dst ≠ some t → find fr' t = find s.fr t := fun t ht => by rw [putD_find hfr, if_neg ht]
  have hself : ∀ t, o.dst = some t → find fr' t = some y := fun t ht => by rw [putD_find hfr, if_pos ht]
  obtain ⟨v, hyv⟩ : ∃ v, den e y = some v := by
    obtain ⟨o', ho', hqk, hm⟩ := hq
    rw [ho] at ho'
    cases ho'
    have hrun : aqq P τ s.fr s.hp o.op = some y → ∃ v, den e y = some v := fun hqv => by
      obtain ⟨v, g1, _⟩ := aqq_run hτ h.kn h.fit hqv; exact ⟨v, g1⟩
    unfold qval at hm
    split at hm
    · exact hrun hm
    · split at hm
      · split at hm
        · exact hrun hm
        · cases hm; exact ⟨undef, undX_den e⟩
      · cases hm
  refine ⟨v, ⟨h.size, h.fuel, fun j hj hl => List.mem_cons_of_mem _ (h.sub j hj hl), fun j hj hn => ?_, fun j hj => ?_, fun j hj => ?_, fun j hj => ?_, h.kn.put hyv hd hfr, by rw [put_defers']; exact h.df, h.sz, fun t ht => ?_, fun j hj hl => ?_, h.fit, h.names.skip, h.lc⟩⟩
  · rcases List.mem_cons.1 hj with rfl | hj
    · exact absurd List.mem_cons_self hn
    · exact h.eff j hj fun hm => hn (List.mem_cons_of_mem _ hm)
  · rcases List.mem_cons.1 hj with rfl | hj
    · exact List.mem_cons_self
    · exact List.mem_cons_of_mem _ (h.vd j hj)
  · rcases List.mem_cons.1 hj with rfl | hj
    · exact hil
    · exact h.dlt j hj
  · rcases List.mem_cons.1 hj with rfl | hj
    · exact predsIn_mono hp
    · exact predsIn_mono (h.cl j hj)
  · have h1 : o.dst ≠ some t := ht i o List.mem_cons_self hli ho
    rw [put_tmps, if_neg (fun c => h1 c.1)]
    exact h.same t fun j p hj hl hp => ht j p (List.mem_cons_of_mem _ hj) hl hp
  · rcases List.mem_cons.1 hj with rfl | hj
    · refine ⟨hv, y, qst_move ho hq rfl fun t ht => hlook t fun e1 => ?_, fun o' d ho' hd' => ?_⟩
      · exact absurd (drawOK_lt hOK ho (virtX_at hv ho ho e1 ht)) (Nat.lt_irrefl _)
      · rw [ho] at ho'; cases ho'
        exact ⟨dok_lt hd d hd', hself d hd'⟩
    · obtain ⟨g1, z, g2, g3⟩ := h.pend j hj hl
      have g2' := g2
      obtain ⟨p, hpj, _⟩ := g2'
      refine ⟨g1, z, qst_move hpj g2 rfl fun t ht => hlook t fun e1 => ?_, fun o' d ho' hd' => ?_⟩
      · have := virtX_at hv ho hpj e1 ht
        have hc := h.cl j (h.vd j hj)
        unfold predsIn at hc
        rw [hpj] at hc
        exact hD (by simpa using List.all_eq_true.1 hc i this)
      · obtain ⟨k1, k2⟩ := g3 o' d ho' hd'
        refine ⟨k1, ?_⟩
        rw [hlook d fun e1 => ?_]
        · exact k2
        · exact dst_keep hOK ho ho' (fun e2 => hD (h.vd _ (e2 ▸ hj))) hd' e1
theorem qagain_at {js : List Nat} : ∀ {j : Nat}, j ∈ js → qagain P τ all s js = true → ∃ o d y, all[j]? = some o ∧ o.dst = some d ∧ qval P τ all s o = some y ∧ find s.fr d = some y := by
  intro j hj h
  induction js with
  | nil => cases hj
  | cons k js ih =>
    simp only [qagain, Bool.and_eq_true] at h
    obtain ⟨h1, h2⟩ := h
    rcases List.mem_cons.1 hj with rfl | hj
    · split at h1
      · rename_i o ho
        split at h1
        · rename_i y d hy hd
          split at h1
          · rename_i z hz
            have := sameX_eq h1
            subst this
            exact ⟨o, d, y, ho, hd, hy, hz⟩
          · cases h1
        · cases h1
      · cases h1
    · exact ih hj h2
theorem J.estep {Q : Exit → Act → World → Prop} {js D V : List Nat} {fuel : Nat} {listed : Array Bool} {a a' : Act} {w : World} (hτ : TyOk P τ) (hcf : CfOk P B e cf) (hcr : CrOk P B e cr) (hOK : drawOK all = true) (h : J P τ B n U0 base all D V e U s (fuel + 1) listed a a' w) {i : Nat} (hi : i ∈ Region.ready .any all listed) (hD : i ∉ D) (he : effOKs all V i js = true)
    {o : Oper} (ho : all[i]? = some o) {ss : List Sg} (hop : aop P τ cf cr n all (base + i) o s = some ss) (hκ : ∀ s' ∈ ss, qagain P τ all s' js = true ∧ ∀ e' U', e.le e' → Goes P τ ro B n U0 base Q all (i :: D) V e' U' s') :
    wpOpIn (WF ro) 0 P all Q i (wpAnyIn (WF ro) 0 P .any all Q fuel (listed.setIfInBounds i true)) a w := by
  obtain ⟨hil, hu, o', ho', hr⟩ := ready_mem hi
  rw [ho] at ho'
  cases ho'
  have hpD : predsIn all D i = true := by
    unfold predsIn
    rw [ho]
    refine List.all_eq_true.2 fun j hj => ?_
    have := getD_lt (hr j hj)
    simpa using h.sub j (by rw [← h.size]; exact this.1) this.2
  have hV : i ∉ V := fun hm => hD (h.vd i hm)
  have hd : dok n o.dst = true := by
    unfold aop at hop
    split at hop
    · cases hop
    · assumption
  -- behind the step
  have hnext : ∀ (v : Value) (w' : World) (s' : Sg) (e' : Env) (U' : Nat → Prop), s' ∈ ss → e.le e' → KnX e' n s'.fr s'.dm (a'.put o.dst v) → Fit B e' s'.hp U' w' → Names U0 base all.size (i :: D) U' s'.nx → (∀ t, o.dst ≠ some t → find s'.fr t = find s.fr t) → wpAnyIn (WF ro) 0 P .any all Q fuel (listed.setIfInBounds i true) (a.put o.dst v) w' := by
    intro v w' s' e' U' hs' hle hk' hf' hN' hlook
    obtain ⟨hst, hgo⟩ := hκ s' hs'
    refine hgo e' U' hle _ _ _ (a'.put o.dst v) _ ⟨by simpa using h.size, countP_set h.size hil hu h.fuel, fun j hj hl => ?_, fun j hj hn => ?_, fun j hj => List.mem_cons_of_mem _ (h.vd j hj), fun j hj => ?_, fun j hj => ?_, hk', by rw [put_defers', put_defers']; exact h.df, by rw [put_size]; exact h.sz, fun t ht => ?_, fun j hj hl => ?_, hf', hN', h.lcs ho hr⟩
    · by_cases e1 : j = i
      · subst e1; exact List.mem_cons_self
      · rw [set_getD e1] at hl; exact List.mem_cons_of_mem _ (h.sub j hj hl)
    · by_cases e1 : j = i
      · subst e1; exact set_getD_self
      · rw [set_getD e1]
        rcases List.mem_cons.1 hj with h' | hj
        · exact absurd h' e1
        · exact h.eff j hj hn
    · rcases List.mem_cons.1 hj with rfl | hj
      · exact hil
      · exact h.dlt j hj
    · rcases List.mem_cons.1 hj with rfl | hj
      · exact predsIn_mono hpD
      · exact predsIn_mono (h.cl j hj)
    · rw [put_tmps, put_tmps, h.sz, h.kn.2.1]
      by_cases e1 : o.dst = some t ∧ t < n
      · rw [if_pos e1, if_pos e1]
      · rw [if_neg e1, if_neg e1]
        refine h.same t fun j p hj hl hp => ht j p hj ?_ hp
        rw [set_getD (fun (e1 : j = i) => hV (by rw [← e1]; exact hj))]
        exact hl
    · have hne : j ≠ i := fun e1 => hV (e1 ▸ hj)
      rw [set_getD hne] at hl
      obtain ⟨g1, z, g2, g3⟩ := h.pend j hj hl
      obtain ⟨p, hpj, hqk, _⟩ := g2
      have hjs : j ∈ js := by
        unfold effOKs at he
        rw [ho] at he
        have hb := List.all_eq_true.1 he j hj
        simp only [Bool.or_eq_true, List.contains_eq_mem, decide_eq_true_eq] at hb
        rcases hb with hb | hb
        · have := ancs_all (L := fun j => listed.getD j false = true) h.lc hr j hb
          rw [(getD_lt this).2] at hl
          cases hl
        · exact hb
      obtain ⟨p', d', y, hp', hd', hv', hf2⟩ := qagain_at hjs hst
      rw [hpj] at hp'
      cases hp'
      refine ⟨g1, y, ⟨p, hpj, hqk, hv'⟩, fun o' d ho' hd2 => ?_⟩
      rw [hpj] at ho'
      cases ho'
      rw [hd'] at hd2
      cases hd2
      exact ⟨(g3 _ _ hpj hd').1, hf2⟩
  have hlooks : ∀ {outs : Outs}, pack o.dst s outs = some ss → ∀ y hp' nx', (y, hp', nx') ∈ outs → ∃ fr', putD s.fr o.dst y = some fr' ∧ s.nx ≤ nx' ∧ (⟨fr', s.dm, hp', nx'⟩ : Sg) ∈ ss := fun h2 y hp' nx' hm => pack_mem h2 _ _ _ hm
  have eff : ∀ {outs : Outs}, aeff P τ cf cr s.fr s.hp (base + i) s.nx o.op = some outs → pack o.dst s outs = some ss → o.wpIn (WF ro) 0 P a w (wpAnyIn (WF ro) 0 P .any all Q fuel (listed.setIfInBounds i true)) Q := by
    intro outs h1 h2
    have hdef : ∀ c, o.op ≠ .defer c := by
      intro c hc
      rw [hc] at h1
      simp only [aeff, one] at h1
      split at h1
      · rename_i hy; exact aqq_defer hy
      · cases h1
    refine wpIn_shift (a' := a') (T := fun v w' => ∃ (s' : Sg) (e' : Env) (U' : Nat → Prop), s' ∈ ss ∧ e.le e' ∧ KnX e' n s'.fr s'.dm (a'.put o.dst v) ∧ Fit B e' s'.hp U' w' ∧ Names U0 base all.size (i :: D) U' s'.nx ∧ (∀ t, o.dst ≠ some t → find s'.fr t = find s.fr t))
      (drawOK_sel hOK ho) hdef (h.eval ho hr) (fun d hdd => by rw [h.kn.2.1]; exact dok_lt hd d hdd) (fun K Q' hK => ?_) _ _ (fun v w' ht => ?_)
    · refine aeff_ok hτ hcf hcr h.kn h.fit (h.names.fresh hD hil) (h.names.above h.dlt) h1 K Q' fun y hp' nx' e' v w' m1 m2 m3 m4 => ?_
      obtain ⟨fr', g1, g2, g3⟩ := hlooks h2 _ _ _ m1
      exact hK v w' ⟨_, e', _, g3, m2, (h.kn.mono m2).put m3 hd g1, m4, h.names.step g2, fun t ht => by rw [putD_find g1, if_neg ht]⟩
    · obtain ⟨s', e', U', k1, k2, k3, k4, k5, k6⟩ := ht
      exact hnext v w' s' e' U' k1 k2 k3 k4 k5 k6
  unfold wpOpIn
  rw [ho]
  simp only
  rw [h.wanted ho hr]
  unfold aop at hop
  rw [hd] at hop
  simp only at hop
  split at hop
  · rename_i hg
    rw [if_pos (by simp [Region.wanted, hg])]
    split at hop
    · rename_i outs h1; exact eff h1 hop
    · cases hop
  · rename_i j want hg
    split at hop
    · rename_i b hb
      have hy := agv_run h.kn hb
      split at hop
      · rename_i hbw
        rw [if_pos (by simpa [Region.wanted, hg, hy] using hbw)]
        split at hop
        · rename_i outs h1; exact eff h1 hop
        · cases hop
      · rename_i hbw
        rw [if_neg (by simpa [Region.wanted, hg, hy] using hbw)]
        split at hop
        · rename_i fr' hfr
          cases hop
          exact ⟨fun _ _ => trivial, hnext undef w _ e U List.mem_cons_self (Env.le_refl e) (h.kn.put (undX_den e) hd hfr) h.fit h.names.skip fun t ht => by rw [putD_find hfr, if_neg ht]⟩
        · cases hop
    · cases hop
/-- One operation of those that are ready, whichever it is. -/
theorem Goes.ready {Q : Exit → Act → World → Prop} {D V l : List Nat} (hτ : TyOk P τ) (hOK : drawOK all = true) (hne : ∃ i, i < all.size ∧ i ∉ D) (hr : readyIn all D l = true)
    (hl : ∀ i ∈ l, ∀ fuel listed a a' w, J P τ B n U0 base all D V e U s (fuel + 1) listed a a' w → i ∈ Region.ready .any all listed → wpOpIn (WF ro) 0 P all Q i (wpAnyIn (WF ro) 0 P .any all Q fuel (listed.setIfInBounds i true)) a w) : Goes P τ ro B n U0 base Q all D V e U s := by
  intro fuel
  induction fuel with
  | zero =>
    intro listed a a' w h
    obtain ⟨i, hi, hn⟩ := hne
    have hz := h.fuel.symm
    rw [List.countP_eq_zero] at hz
    have := hz i (by simpa using hi)
    exact absurd (h.sub i hi (by simpa using this)) hn
  | succ fuel ih =>
    intro listed a a' w h
    refine ⟨fun e1 => ?_, fun i hi => ?_⟩
    · have hpos : 0 < (List.range all.size).countP (fun i => !listed.getD i true) := by rw [← h.fuel]; omega
      obtain ⟨i, hi, hu⟩ := List.countP_pos_iff.1 hpos
      exact absurd e1 (ready_ne hOK h.size (by simpa using hi) (by simpa using hu))
    · obtain ⟨hil, hu, o, ho, hp⟩ := ready_mem hi
      by_cases hD : i ∈ D
      · by_cases hV : i ∈ V
        · exact h.pstep hτ hi hV fun a1 h1 => ih _ _ _ _ h1
        · rw [h.eff i hD hV] at hu; cases hu
      · have hpD : predsIn all D i = true := by
          unfold predsIn
          rw [ho]
          refine List.all_eq_true.2 fun j hj => ?_
          have := getD_lt (hp j hj)
          simpa using h.sub j (by rw [← h.size]; exact this.1) this.2
        have := List.all_eq_true.1 hr i (by simpa using hil)
        simp only [hpD, List.contains_eq_mem, Bool.or_eq_true, Bool.not_true, decide_eq_true_eq] at this
        rcases this with (h' | h') | h'
        · exact absurd h' hD
        · cases h'
        · exact hl i h' fuel listed a a' w h hi
/-- What is asked where a region ends. -/
def RegEnd (B : World) (n : Nat) (U0 : Nat → Prop) (base : Nat) (all : Array Oper) (e : Env) (Q : Exit → Act → World → Prop) (ss : List Sg) : Prop :=
  ∀ s' e' U' a' w', s' ∈ ss → e.le e' → KnX e' n s'.fr s'.dm a' → Fit B e' s'.hp U' w' → (∃ D', Names U0 base all.size D' U' s'.nx ∧ ∀ j ∈ D', j < all.size) → Q .normal a' w'
theorem apl_ok {Q : Exit → Act → World → Prop} (hτ : TyOk P τ) (hOK : drawOK all = true) : ∀ (p : AP) (D V : List Nat) (e : Env) (U : Nat → Prop) (s : Sg) (ss : List Sg), CfOk P B e cf → CrOk P B e cr → apOK all D V p = true → apl P τ cf cr n all base p s = some ss →
    RegEnd B n U0 base all e Q ss → (chainy p = false → Goes P τ ro B n U0 base Q all D V e U s) ∧
      (chainy p = true → ∀ i ∈ alts p, i ∉ D ∧ i < all.size ∧ ∀ fuel listed a a' w, J P τ B n U0 base all D V e U s (fuel + 1) listed a a' w → i ∈ Region.ready .any all listed → wpOpIn (WF ro) 0 P all Q i (wpAnyIn (WF ro) 0 P .any all Q fuel (listed.setIfInBounds i true)) a w)
  | .done, D, V, e, U, s, ss, hcf, hcr, hp, h, hQ => by
    refine ⟨fun _ => ?_, fun h => nomatch h⟩
    simp only [apl, Option.some.injEq] at h
    subst h
    have hall : ∀ i, i < all.size → i ∈ D := fun i hi => by simpa using List.all_eq_true.1 hp i (by simpa using hi)
    intro fuel
    induction fuel with
    | zero =>
      intro listed a a' w hJ
      have hz := hJ.fuel.symm
      rw [List.countP_eq_zero] at hz
      have hli : ∀ i, i < all.size → listed.getD i true = true := fun i hi => by simpa using hz i (by simpa using hi)
      refine ⟨?_, ?_⟩
      · apply List.eq_nil_iff_forall_not_mem.2
        intro i hi
        obtain ⟨h1, h2, _⟩ := ready_mem hi
        rw [hli i h1] at h2
        cases h2
      · refine hQ s e U a w List.mem_cons_self (Env.le_refl e) ⟨by rw [hJ.df]; exact hJ.kn.1, hJ.sz, fun d x hx => ?_⟩ hJ.fit ⟨D, hJ.names, hJ.dlt⟩
        obtain ⟨g1, v, g2, g3⟩ := hJ.kn.2.2 d x hx
        refine ⟨g1, v, g2, (hJ.same d fun i o hi hl ho => ?_).trans g3⟩
        rw [hli i (hJ.dlt i (hJ.vd i hi))] at hl
        cases hl
    | succ fuel ih =>
      intro listed a a' w hJ
      refine ⟨fun e1 => ?_, fun i hi => ?_⟩
      · have hpos : 0 < (List.range all.size).countP (fun i => !listed.getD i true) := by rw [← hJ.fuel]; omega
        obtain ⟨i, hi, hu⟩ := List.countP_pos_iff.1 hpos
        exact absurd e1 (ready_ne hOK hJ.size (by simpa using hi) (by simpa using hu))
      · obtain ⟨hil, hu, _⟩ := ready_mem hi
        by_cases hV : i ∈ V
        · exact hJ.pstep hτ hi hV fun a1 h1 => ih _ _ _ _ h1
        · rw [hJ.eff i (hall i hil) hV] at hu; cases hu
  | .q i p, D, V, e, U, s, ss, hcf, hcr, hp, h, hQ => by
    refine ⟨fun _ => ?_, fun h => nomatch h⟩
    simp only [apOK, Bool.and_eq_true, Bool.not_eq_true', List.contains_eq_mem, decide_eq_true_eq, decide_eq_false_iff_not] at hp
    obtain ⟨⟨⟨⟨⟨p1, p2⟩, p3⟩, p4⟩, p5⟩, p6⟩ := hp
    simp only [apl] at h
    split at h
    · rename_i o ho
      split at h
      · rename_i y hd hy
        split at h
        · rename_i fr' hfr
          intro fuel listed a a' w hJ
          obtain ⟨v, hJ'⟩ := hJ.virt hτ hOK ho p1 p3 p4 hd ⟨o, ho, virtX_q p4 ho, hy⟩ hfr
          exact (apl_ok hτ hOK p _ _ _ _ _ _ hcf hcr p6 h hQ).1 p5 _ _ _ _ _ hJ'
        · cases h
      · cases h
    · cases h
  | .br c, D, V, e, U, s, ss, hcf, hcr, hp, h, hQ => by
    refine ⟨fun _ => ?_, fun h => nomatch h⟩
    simp only [apOK, Bool.and_eq_true, Bool.not_eq_true'] at hp
    obtain ⟨⟨⟨p1, p2⟩, p3⟩, p4⟩ := hp
    simp only [apl] at h
    split at h
    case h_2 => cases h
    rename_i l hl
    cases h
    have h2 := (apl_ok hτ hOK c D V e U s l hcf hcr p4 hl fun s' e' U' a' w' hm => hQ s' e' U' a' w' (dd_mem hm)).2 p3
    obtain ⟨i0, hi0⟩ : ∃ i, i ∈ alts c := by
      cases hc : alts c with
      | nil => rw [hc] at p1; cases p1
      | cons i l => exact ⟨i, List.mem_cons_self⟩
    exact Goes.ready hτ hOK ⟨i0, (h2 i0 hi0).2.1, (h2 i0 hi0).1⟩ p2 fun i hi => (h2 i hi).2.2
  | .alt i js p r, D, V, e, U, s, ss, hcf, hcr, hp, h, hQ => by
    refine ⟨(fun h => nomatch h), fun _ j hj => ?_⟩
    simp only [apOK, Bool.and_eq_true, Bool.not_eq_true', List.contains_eq_mem, decide_eq_true_eq, decide_eq_false_iff_not] at hp
    obtain ⟨⟨⟨⟨⟨⟨⟨p1, p2⟩, p3⟩, p4⟩, p5⟩, p6⟩, p7⟩, p8⟩ := hp
    simp only [apl] at h
    split at h
    · rename_i o ho
      split at h
      · rename_i ss1 h1
        split at h
        · rename_i ra rb ha hb
          cases h
          simp only [alts] at hj
          rcases List.mem_cons.1 hj with rfl | hj
          · refine ⟨p1, p2, fun fuel listed a a' w hJ hi => hJ.estep hτ hcf hcr hOK hi p1 p4 ho h1 fun s' hs' => ?_⟩
            obtain ⟨r1, g1, g2⟩ := bindS_mem ha s' hs'
            split at g1
            · rename_i hag
              exact ⟨hag, fun e' U' hle => (apl_ok hτ hOK p _ _ _ _ _ _ (hcf.mono hle) (hcr.mono hle) p6 g1 fun s2 e2 U2 a2 w2 k1 k2 k3 k4 k5 => hQ s2 e2 U2 a2 w2 (List.mem_append_left _ (g2 _ k1)) (Env.le_trans hle k2) k3 k4 k5).1 p5⟩
            · cases g1
          · exact (apl_ok hτ hOK r D V e U s rb hcf hcr p7 hb fun s2 e2 U2 a2 w2 k1 => hQ s2 e2 U2 a2 w2 (List.mem_append_right _ k1)).2 p8 j hj
        · cases h
      · cases h
    · cases h
  | .nil, D, V, e, U, s, ss, hcf, hcr, hp, h, hQ => ⟨(fun h => nomatch h), fun _ j hj => nomatch hj⟩
/-- A region that draws its order. -/
theorem adraw_ok {id : Nat} {Q : Exit → Act → World → Prop} {ss : List Sg} {a : Act} {w : World} {p : AP} (hm : P.follows .mixedOrders = true) (hτ : TyOk P τ) (hcf : CfOk P B e cf) (hcr : CrOk P B e cr) (hOK : drawOK all = true) (hp : apOK all [] [] p = true) (hc : chainy p = false)
    (hk : KnX e n s.fr s.dm a) (hf : Fit B e s.hp U w) (hN : Names U0 base all.size [] U s.nx) (h : apl P τ cf cr n all base p s = some ss) (hQ : RegEnd B n U0 base all e Q ss) : (Code.region id all true).wpIn (WF ro) 0 P Q a w := by
  refine wpIn_region_any hm ?_
  have hf' : Fit B e s.hp U { w with drawn := w.drawn + 1 } := ⟨⟨hf.late.os, hf.late.tape, hf.late.output, hf.late.size, hf.late.block⟩, hf.use, hf.dom, fun id b z hb hz => by
    obtain ⟨o, h1, h2⟩ := hf.obj id b z hb hz
    exact ⟨o, h1, h2.mono (Env.le_refl e) fun _ _ _ _ _ => rfl⟩, hf.own, hf.inj, hf.env⟩
  refine (apl_ok hτ hOK p [] [] e U s ss hcf hcr hp h hQ).1 hc _ _ a a _ ?_
  refine ⟨by simp, ?_, fun i hi hl => ?_, fun i hi => ?_, fun i hi => ?_, fun i hi => ?_, fun i hi => ?_, hk, rfl, hk.2.1, fun t _ => rfl, fun i hi => ?_, hf', hN, fun k p _ hk => absurd hk (by simp [Array.getD])⟩
  · have : (List.range all.size).countP (fun i => !(Array.replicate all.size false).getD i true) = (List.range all.size).length := by
      rw [List.countP_eq_length]
      intro i hi
      have : i < all.size := by simpa using hi
      simp [Array.getD, this]
    rw [this, List.length_range]
  · simp [Array.getD, hi] at hl
  all_goals cases hi
end
end Go.AM
