/- The evaluator, part 18: functions; a call whose arguments are known, as a contract. -/
import Derived.Test.YtmiekonofocboaaGreatDoorF17
import Derived.RecoverIn
set_option linter.unusedVariables false
set_option linter.unusedSectionVars false
set_option linter.unusedSimpArgs false
namespace Go.AM
open Go Go.RowKit Go.Eng
/-- What the evaluator is told of a function. -/
structure AFd where
  code : Code
  n : Nat
  rs : List ResultVar
  pl : List (Nat × AP)
def plAt : List (Nat × AP) → Nat → AP
  | [], _ => .done
  | (k, p) :: l, id => match Nat.beq k id with
    | true => p
    | false => plAt l id
def FnsOk (P : Program) (fns : FuncId → Option AFd) : Prop :=
  ∀ f F, fns f = some F → ∃ fn, P.funcs[f]? = some fn ∧ fn.body = some F.code ∧ (fn.name == "runtime.NumGoroutine") = false ∧ fn.results = F.rs.toArray ∧ fn.ntmps = F.n ∧ codeOK (plAt F.pl) F.code = true
def initX (n : Nat) : Nat → X → Tr X → Option (Tr X)
  | _, .nl, fr => some fr
  | i, .cs x l, fr => (match Nat.blt i n, put 40 fr i (some x) with
    | true, some fr' => initX n (i + 1) l fr'
    | _, _ => none)
  | _, _, _ => none
def resX (τ : Ty) (fr : Tr X) (hp : Hp) : List ResultVar → Option X
  | [] => some .nl
  | .tmp t :: r => (match find fr t, resX τ fr hp r with
    | some x, some l => some (.cs x l)
    | _, _ => none)
  | .cell a t :: r => (match find fr a, resX τ fr hp r with
    | some (.p id off), some l => (match ldX τ hp t id off with
      | some x => some (.cs x l)
      | none => none)
    | _, _ => none)
def retX : X → X
  | .cs v .nl => v
  | l => .tup l
/-- Deferred calls: what recover answers where nothing is amiss. -/
def recX (P : Program) (τ : Ty) (s : Sg) : Op → Option X
  | .call ⟨.builtin .recover, _, _⟩ => some .if0
  | op => aqq P τ s.fr s.hp op
def hasRec (ops : Array Oper) : Bool := ops.toList.any fun o => match o.op with
  | .call ⟨.builtin .recover, _, _⟩ => true
  | _ => false
def aseqS (P : Program) (τ : Ty) (n : Nat) (ops : Array Oper) : List Nat → Sg → Option Sg
  | [], s => some s
  | i :: r, s => (match ops[i]? with
    | none => none
    | some o => (match o.guard, dok n o.dst, recX P τ s o.op with
      | none, true, some y => (match putD s.fr o.dst y with
        | some fr' => aseqS P τ n ops r ⟨fr', s.dm, s.hp, s.nx⟩
        | none => none)
      | _, _, _ => none))
def aexecS (run : Code → Sg → Option Fin') (P : Program) (τ : Ty) (n : Nat) : Code → Sg → Option Fin'
  | .seq x y, s => seqE (aexecS run P τ n y) (aexecS run P τ n x s)
  | .cond c x y, s => (match ev s.fr c with
    | some (.b true) => aexecS run P τ n x s
    | some (.b false) => aexecS run P τ n y s
    | _ => none)
  | .region id ops dr, s => (match dr, hasRec ops with
    | false, true => (match aseqS P τ n ops (List.range ops.size) s with
      | some s' => some [(.n, s')]
      | none => none)
    | _, _ => run (.region id ops dr) s)
  | c, s => run c s
def retD : List ResultVar → Fin' → Option Outs
  | [], [] => some []
  | [], (.x _, _) :: _ => none
  | [], (_, s) :: r => (match s.dm, retD [] r with
    | [], some outs => some ((undX, s.hp, s.nx) :: outs)
    | _, _ => none)
  | _ :: _, _ => none
def adefer (P : Program) (τ : Ty) (fns : FuncId → Option AFd) (run : AFd → Code → Sg → Option Fin') (f : FuncId) (l : X) (hp : Hp) (nx : Nat) : Option Outs :=
  match fns f with
  | none => none
  | some F => (match initX F.n 0 l .lf with
    | some fr => (match aexecS (run F) P τ F.n F.code ⟨fr, [], hp, nx⟩ with
      | some outs => retD F.rs outs
      | none => none)
    | none => none)
/-- What a frame has yet to do when it leaves. -/
def closeD (df : FuncId → X → Hp → Nat → Option Outs) : List DM → Hp → Nat → Option Outs
  | [], hp, nx => some [(undX, hp, nx)]
  | .m id :: r, hp, nx => (match find hp id with
    | some .df => (match put 40 hp id none with
      | some hp' => closeD df r hp' nx
      | none => none)
    | _ => none)
  | .c f l :: r, hp, nx => (match df f l hp nx with
    | some outs => bindS (fun p => closeD df r p.2.1 p.2.2) outs
    | none => none)
def resAll (τ : Ty) (fr : Tr X) (rs : List ResultVar) : Outs → Option Outs
  | [] => some []
  | (_, hp, nx) :: r => (match resX τ fr hp rs, resAll τ fr rs r with
    | some l, some outs => some ((retX l, hp, nx) :: outs)
    | _, _ => none)
def retE (df : FuncId → X → Hp → Nat → Option Outs) (τ : Ty) (rs : List ResultVar) : Fin' → Option Outs
  | [] => some []
  | (.x _, _) :: _ => none
  | (_, s) :: r => (match closeD df s.dm s.hp s.nx, retE df τ rs r with
    | some cl, some outs => (match resAll τ s.fr rs cl with
      | some o => some (o ++ outs)
      | none => none)
    | _, _ => none)
def acall (P : Program) (τ : Ty) (fns : FuncId → Option AFd) (fuel : Nat) : Nat → CallF → CallF
  | 0, _, _, _, _, _ => none
  | d + 1, cr, f, args, hp, nx => (match fns f with
    | none => none
    | some F => (match initX F.n 0 args .lf with
      | some fr => (match aexec P τ (acall P τ fns fuel d) (plAt F.pl) F.n fuel cr none F.code ⟨fr, [], hp, nx⟩ with
        | some outs => retE (adefer P τ fns fun G => aexec P τ (acall P τ fns fuel d) (plAt G.pl) G.n fuel cr none) τ F.rs outs
        | none => none)
      | none => none))
section
variable {P : Program} {B : World} {n : Nat} {τ : Ty} {fns : FuncId → Option AFd} {fuel : Nat}
theorem initX_run {e : Env} : ∀ {args : X} {i : Nat} {fr fr' : Tr X} {vs : List Value}, initX n i args fr = some fr' → denL e args = some vs → i + vs.length ≤ n ∨ vs = [] → i + vs.length ≤ n ∨ vs = [] := fun _ _ h => h
theorem initX_len {e : Env} : ∀ {args : X} {i : Nat} {fr fr' : Tr X} {vs : List Value}, initX n i args fr = some fr' → denL e args = some vs → vs = [] ∨ i + vs.length ≤ n := by
  intro args
  induction args with
  | cs x l _ ih =>
    intro i fr fr' vs h hv
    simp only [initX] at h
    split at h
    · rename_i fr1 hlt hput
      have hlt := bltT.1 hlt
      rcases denL_cases hv with ⟨h0, _⟩ | ⟨a', b', v, m, h0, rfl, g1, g2⟩
      · cases h0
      · cases h0
        rcases ih h g2 with rfl | h'
        · exact .inr (by simp; omega)
        · exact .inr (by simp; omega)
    · cases h
  | nl => intro i fr fr' vs h hv; simp only [denL, Option.some.injEq] at hv; exact .inl hv.symm
  | _ => intro i fr fr' vs h; simp [initX] at h
theorem initX_find {e : Env} : ∀ {args : X} {i : Nat} {fr fr' : Tr X} {vs : List Value}, initX n i args fr = some fr' → denL e args = some vs → ∀ d x, find fr' d = some x → (find fr d = some x ∧ (d < i ∨ i + vs.length ≤ d)) ∨ ∃ v, i ≤ d ∧ vs[d - i]? = some v ∧ den e x = some v ∧ d < n := by
  intro args
  induction args with
  | cs y l _ ih =>
    intro i fr fr' vs h hv d x hx
    simp only [initX] at h
    split at h
    · rename_i fr1 hlt hput
      have hlt := bltT.1 hlt
      rcases denL_cases hv with ⟨h0, _⟩ | ⟨a', b', v, m, h0, rfl, g1, g2⟩
      · cases h0
      · cases h0
        rcases ih h g2 d x hx with ⟨k1, k2⟩ | ⟨u, k1, k2, k3, k4⟩
        · rw [put_find _ _ _ _ _ hput] at k1
          split at k1
          · rename_i e1
            cases k1
            subst e1
            exact .inr ⟨v, Nat.le_refl _, by simp, g1, hlt⟩
          · rename_i e1
            exact .inl ⟨k1, by simp at k2 ⊢; omega⟩
        · refine .inr ⟨u, by omega, ?_, k3, k4⟩
          obtain ⟨j, hj⟩ : ∃ j, d - i = j + 1 := ⟨d - i - 1, by omega⟩
          rw [hj, List.getElem?_cons_succ, ← k2]
          congr 1
          omega
    · cases h
  | nl =>
    intro i fr fr' vs h hv d x hx
    simp only [initX, Option.some.injEq] at h
    subst h
    simp only [denL, Option.some.injEq] at hv
    subst hv
    exact .inl ⟨hx, by simp; omega⟩
  | _ => intro i fr fr' vs h; simp [initX] at h
theorem init_kn {e : Env} (hg : EnvG e) {args : X} {fr : Tr X} {vs : List Value} (h : initX n 0 args .lf = some fr) (hv : denL e args = some vs) : KnX e n fr [] { tmps := vs.toArray ++ Array.replicate (n - vs.toArray.size) undef, defers := [] } := by
  have hl : vs.length ≤ n := by
    rcases initX_len h hv with rfl | h'
    · simp
    · omega
  refine ⟨⟨hg, rfl⟩, by simp; omega, fun d x hd => ?_⟩
  rcases initX_find h hv d x hd with ⟨k1, _⟩ | ⟨v, k1, k2, k3, k4⟩
  · rw [find_lf] at k1; cases k1
  · refine ⟨k4, v, k3, ?_⟩
    have hdl : d < vs.length := by
      rcases Nat.lt_or_ge d vs.length with h' | h'
      · exact h'
      · rw [List.getElem?_eq_none (by omega)] at k2; cases k2
    rw [Nat.sub_zero, List.getElem?_eq_getElem hdl] at k2
    simp only [Option.some.injEq] at k2
    simp [Array.getD, hdl, k2]
    omega
theorem resX_run (hτ : TyOk P τ) {e : Env} {fr : Tr X} {dm : List DM} {hp : Hp} {U : Nat → Prop} {a : Act} {w : World} (hk : KnX e n fr dm a) (hf : Fit B e hp U w) : ∀ {rs : List ResultVar} {l : X}, resX τ fr hp rs = some l → ∃ vs, denL e l = some vs ∧ rvals P (fullS a n w) rs = some vs
  | [], l, h => by simp only [resX, Option.some.injEq] at h; subst h; exact ⟨[], rfl, rfl⟩
  | .tmp t :: r, l, h => by
    simp only [resX] at h
    split at h
    · rename_i x l' h1 h2
      cases h
      obtain ⟨vs, g1, g2⟩ := resX_run hτ hk hf h2
      obtain ⟨v, k1, _, k2⟩ := ev_full hk w (x := .tmp t) h1
      refine ⟨v :: vs, by simp only [denL, k1, g1], ?_⟩
      have k2 : Eng.look (fullS a n w).L t = some (.v v) := k2
      simp only [rvals, rval1, k2, g2, AV.val_v]
    · cases h
  | .cell c t :: r, l, h => by
    simp only [resX] at h
    split at h
    · rename_i id off l' h1 h2
      split at h
      · rename_i x hx
        cases h
        obtain ⟨vs, g1, g2⟩ := resX_run hτ hk hf h2
        obtain ⟨v, k1, _, k2⟩ := ev_full hk w (x := .tmp c) h1
        have k2 : Eng.look (fullS a n w).L c = some (.v v) := k2
        obtain ⟨z, hz, rfl⟩ := den_p k1
        obtain ⟨u, j1, j2⟩ := ldX_run hτ hf a n hz hx
        exact ⟨u :: vs, by simp only [denL, j1, g1], by simp only [rvals, rval1, k2, j2, g2, AV.val_v]⟩
      · cases h
    · cases h
theorem retX_den {e : Env} {l : X} {vs : List Value} (h : denL e l = some vs) : den e (retX l) = some (rval vs) := by
  rcases denL_cases h with ⟨rfl, rfl⟩ | ⟨a, b, v, m, rfl, rfl, h1, h2⟩
  · rfl
  · rcases denL_cases h2 with ⟨rfl, rfl⟩ | ⟨a2, b2, v2, m2, rfl, rfl, h3, h4⟩
    · exact h1
    · simp only [retX, den, h]
      rfl
/-! ### Deferred calls -/
theorem wpSIn_mono {F : Fence} {m : Nat} {c : Code} {Q Q' : Exit → Act → List Frame → World → Prop} {a : Act} {cs : List Frame} {w : World} (h : c.wpSIn F m P Q a cs w) (hq : ∀ e a cs w, Q e a cs w → Q' e a cs w) : c.wpSIn F m P Q' a cs w :=
  fun b k h1 h2 h3 h4 => let ⟨e, a', cs', w', l, q, r⟩ := h b k h1 h2 h3 h4; ⟨e, a', cs', w', l, hq _ _ _ _ q, r⟩
theorem recoverD_ret {c0 : Frame} {cs : List Frame} (h : c0.mode = .returning) : recoverD (c0 :: cs) = none := by simp [recoverD, h]
theorem aseqS_ok (hτ : TyOk P τ) {ops : Array Oper} {c0 : Frame} {cs : List Frame} (hm : c0.mode = .returning) {e : Env} {U : Nat → Prop} {w : World} {Q : Exit → Act → List Frame → World → Prop} : ∀ {l : List Nat} {s s' : Sg} {a : Act}, KnX e n s.fr s.dm a → Fit B e s.hp U w → aseqS P τ n ops l s = some s' →
    (∀ a', KnX e n s'.fr s'.dm a' → Fit B e s'.hp U w → s'.nx = s.nx → Q .normal a' (c0 :: cs) w) → wpOpsSIn Fence.wide 0 P ops Q l a (c0 :: cs) w
  | [], s, s', a, hk, hf, h, hQ => by
    simp only [aseqS, Option.some.injEq] at h
    subst h
    exact hQ a hk hf rfl
  | i :: r, s, s', a, hk, hf, h, hQ => by
    simp only [aseqS] at h
    unfold wpOpsSIn
    cases ho : ops[i]? with
    | none => rw [ho] at h; cases h
    | some o =>
      rw [ho] at h
      simp only at h ⊢
      split at h
      · rename_i y hg hd hy
        split at h
        · rename_i fr' hfr
          refine ⟨fun _ _ => trivial, ?_⟩
          rw [if_pos (by simp [Region.wanted, hg])]
          have next : ∀ v, den e y = some v → wpOpsSIn Fence.wide 0 P ops Q r (a.put o.dst v) (c0 :: cs) w := fun v hv =>
            aseqS_ok hτ hm (s := ⟨fr', s.dm, s.hp, s.nx⟩) (hk.put hv hd hfr) hf h hQ
          unfold recX at hy
          split at hy
          · rename_i args tys hop
            cases hy
            obtain ⟨dst, op, type, pos, after, guard⟩ := o
            simp only at hop
            subst hop
            have e2 : (execOp a.eval ⟨dst, .call ⟨.builtin .recover, args, tys⟩, type, pos, after, guard⟩).run P w = .ok .recover w := by
              have e1 : execOp a.eval ⟨dst, .call ⟨.builtin .recover, args, tys⟩, type, pos, after, guard⟩ = (do let d ← resolve a.eval ⟨.builtin .recover, args, tys⟩ type; invoke d.target d.args) := rfl
              rw [e1]
              simp only [resolve, Sem.run_bind, Sem.run_pure, Result.andThen_ok, invoke, builtin]
            rw [e2]
            simp only [recoverD_ret hm]
            exact next _ rfl
          · obtain ⟨v, h1, h2⟩ := aqq_run hτ hk hf hy
            rw [h2]
            exact next v h1
        · cases h
      · cases h
theorem aexecS_ok (hτ : TyOk P τ) {pl : Nat → AP} {run : Code → Sg → Option Fin'} {e0 : Env} (hrun : ∀ c s outs e U a w, e0.le e → codeOK pl c = true → KnX e n s.fr s.dm a → Fit B e s.hp U w → (∀ id, s.nx ≤ id → ¬ U id) → run c s = some outs → c.wpIn Fence.wide 0 P (Post B n e U s.nx outs) a w) {c0 : Frame} {cs : List Frame} (hm : c0.mode = .returning) :
    ∀ (c : Code) (s : Sg) (outs : Fin') (e : Env) (U : Nat → Prop) (a : Act) (w : World), e0.le e → codeOK pl c = true → KnX e n s.fr s.dm a → Fit B e s.hp U w → (∀ id, s.nx ≤ id → ¬ U id) → aexecS run P τ n c s = some outs →
      c.wpSIn Fence.wide 0 P (fun ex a' cs' w' => cs' = c0 :: cs ∧ Post B n e U s.nx outs ex a' w') a (c0 :: cs) w := by
  intro c
  have plain : ∀ (c : Code) (s : Sg) (outs : Fin') (e : Env) (U : Nat → Prop) (a : Act) (w : World), e0.le e → codeOK pl c = true → KnX e n s.fr s.dm a → Fit B e s.hp U w → (∀ id, s.nx ≤ id → ¬ U id) → run c s = some outs →
      c.wpSIn Fence.wide 0 P (fun ex a' cs' w' => cs' = c0 :: cs ∧ Post B n e U s.nx outs ex a' w') a (c0 :: cs) w := fun c s outs e U a w h1 h2 h3 h4 h5 h6 =>
    wpSIn_of_wpIn rfl (wpIn_mono (hrun c s outs e U a w h1 h2 h3 h4 h5 h6) fun ex a' w' h => ⟨rfl, h⟩)
  induction c with
  | seq x y ihx ihy =>
    intro s outs e U a w h1 h2 h3 h4 h5 h6
    simp only [aexecS] at h6
    simp only [codeOK, Bool.and_eq_true] at h2
    obtain ⟨l, q1, q2⟩ := seqE_mem h6
    refine wpSIn_seq (wpSIn_mono (ihx s l e U a w h1 h2.1 h3 h4 h5 q1) ?_)
    rintro ex a' cs' w' ⟨rfl, x1, t, e', U', g1, g2, g3, g4, g5, g6, g7⟩
    rcases q2 x1 t g2 with ⟨rfl, r, k1, k2⟩ | ⟨k1, k2⟩
    · cases ex <;> simp only [exE] at g1 <;> first | (cases g1; done) | skip
      exact wpSIn_mono (ihy t r e' U' a' w' (Env.le_trans h1 g3) h2.2 g4 g5 (fresh_after h5 g6 g7) k1) fun ex a2 cs2 w2 hq => ⟨hq.1, hq.2.trans g3 g6 g7 k2⟩
    · cases ex <;> simp only [exE, Option.some.injEq] at g1 <;> first | (cases g1; done) | skip
      · exact absurd g1.symm k1
      · exact ⟨rfl, x1, t, e', U', by simpa [exE] using g1, k2, g3, g4, g5, g6, g7⟩
      · exact ⟨rfl, x1, t, e', U', by simpa [exE] using g1, k2, g3, g4, g5, g6, g7⟩
  | cond c x y ihx ihy =>
    intro s outs e U a w h1 h2 h3 h4 h5 h6
    simp only [aexecS] at h6
    simp only [codeOK, Bool.and_eq_true] at h2
    split at h6
    · rename_i he
      obtain ⟨v, k1, k2⟩ := ev_run h3 he
      simp only [den, Option.some.injEq] at k1
      subst k1
      exact wpSIn_cond (t := true) k2 (ihx s outs e U a w h1 h2.1 h3 h4 h5 h6)
    · rename_i he
      obtain ⟨v, k1, k2⟩ := ev_run h3 he
      simp only [den, Option.some.injEq] at k1
      subst k1
      exact wpSIn_cond (t := false) k2 (ihy s outs e U a w h1 h2.2 h3 h4 h5 h6)
    · cases h6
  | region id ops dr =>
    intro s outs e U a w h1 h2 h3 h4 h5 h6
    simp only [aexecS] at h6
    split at h6
    · split at h6
      · rename_i s' hs
        cases h6
        refine wpSIn_region (aseqS_ok hτ hm h3 h4 hs fun a' g1 g2 g3 => ⟨rfl, .n, s', e, U, rfl, List.mem_cons_self, Env.le_refl e, g1, g2, Nat.le_of_eq g3.symm, fun id h => .inl h⟩)
      · cases h6
    · exact plain _ s outs e U a w h1 h2 h3 h4 h5 h6
  | _ =>
    intro s outs e U a w h1 h2 h3 h4 h5 h6
    exact plain _ s outs e U a w h1 h2 h3 h4 h5 h6
theorem retD_mem : ∀ {rs : List ResultVar} {r : Fin'} {outs : Outs}, retD rs r = some outs → rs = [] ∧ ∀ x s, (x, s) ∈ r → (∀ id, x ≠ .x id) ∧ s.dm = [] ∧ (undX, s.hp, s.nx) ∈ outs
  | [], [], _, _ => ⟨rfl, fun _ _ h => nomatch h⟩
  | _ :: _, [], _, h => by simp [retD] at h
  | _ :: _, _ :: _, _, h => by simp [retD] at h
  | [], (y, t) :: r, outs, h => by
    refine ⟨rfl, fun x s hm => ?_⟩
    have key : (∀ id, y ≠ .x id) → (match t.dm, retD [] r with
        | [], some outs => some ((undX, t.hp, t.nx) :: outs)
        | _, _ => none) = some outs → (∀ id, x ≠ .x id) ∧ s.dm = [] ∧ (undX, s.hp, s.nx) ∈ outs := by
      intro hy h
      split at h
      · rename_i outs' h1 h2
        cases h
        rcases List.mem_cons.1 hm with hm | hm
        · cases hm; exact ⟨hy, h1, List.mem_cons_self⟩
        · obtain ⟨g0, g1, g2⟩ := (retD_mem h2).2 x s hm
          exact ⟨g0, g1, List.mem_cons_of_mem _ g2⟩
      · cases h
    cases y with
    | n => simp only [retD] at h; exact key (fun _ h => nomatch h) h
    | r => simp only [retD] at h; exact key (fun _ h => nomatch h) h
    | x id => simp only [retD] at h; cases h
/-- What comes of a deferred call where nothing is amiss. -/
def DefPost (B : World) (e : Env) (U : Nat → Prop) (nx : Nat) (outs : Outs) (en : Ending) (u : FrameMode) (w' : World) : Prop :=
  ∃ hp' nx' e' U' v, (undX, hp', nx') ∈ outs ∧ en = .returned v ∧ u = .returning ∧ e.le e' ∧ Fit B e' hp' U' w' ∧ nx ≤ nx' ∧ ∀ id, U' id → U id ∨ (nx ≤ id ∧ id < nx')
def DfOk (P : Program) (B : World) (e0 : Env) (df : FuncId → X → Hp → Nat → Option Outs) : Prop :=
  ∀ f args hp nx outs e U w vs, e0.le e → df f args hp nx = some outs → Fit B e hp U w → (∀ id, nx ≤ id → ¬ U id) → denL e args = some vs → CallOk P f ∧ CallsDIn Fence.wide 0 P f vs.toArray .returning w (DefPost B e U nx outs)
theorem adefer_ok (hm : P.follows .mixedOrders = true) (hτ : TyOk P τ) (hF : FnsOk P fns) {call : CallF → CallF} (hc : CallGood P B call) {e0 : Env} {cr : CallF} (hcr : CrOk P B e0 cr) : DfOk P B e0 (adefer P τ fns fun G => aexec P τ call (plAt G.pl) G.n fuel cr none) := by
  intro f args hp nx outs e U w vs hle h hf hnx hv
  unfold adefer at h
  split at h
  · cases h
  · rename_i F hFf
    obtain ⟨fn, f1, f2, f3, f4, f5, f6⟩ := hF f F hFf
    split at h
    · rename_i fr hfr
      split at h
      · rename_i fouts hx
        obtain ⟨hrs, hret⟩ := retD_mem h
        refine ⟨⟨fn, f1, by simp [f2], f3⟩, callsDIn_of_wpSIn f1 f2 trivial fun c0 cs hmode => ?_⟩
        have hkn := init_kn hf.env hfr hv
        refine wpSIn_mono (aexecS_ok hτ (pl := plAt F.pl) (e0 := e0) (n := F.n) (fun c s outs e U a w g1 g2 g3 g4 g5 g6 => (aexec_ok (B := B) (n := F.n) (pl := plAt F.pl) hm hτ hc fuel).1 cr none c s outs e U a w (hcr.mono g1) trivial g2 g3 g4 g5 g6) hmode F.code ⟨fr, [], hp, nx⟩ fouts e U _ w hle f6 (by rw [f5]; exact hkn) hf hnx hx) ?_
        rintro ex a' cs' w' ⟨rfl, x, s, e', U', h1, h2, h3, h4, h5, h6, h7⟩
        obtain ⟨g0, g1, g2⟩ := hret x s h2
        have hd : a'.defers = [] := by have := h4.1.2; rw [g1] at this; exact this
        obtain ⟨vs', k1, k2⟩ := resX_run (rs := []) hτ h4 h5 rfl
        have fin : a'.defers = [] ∧ ∃ u', c0 :: cs = { c0 with mode := u' } :: cs ∧ ∃ v, (results fn a'.tmps).run P w' = .ok v w' ∧ DefPost B e U nx outs (.returned v) u' w' :=
          ⟨hd, .returning, by rw [← hmode], rval vs', results_run (full_kn h4 w') (full_sat a' F.n w') (by rw [f4, hrs]) k2, s.hp, s.nx, e', U', rval vs', g2, rfl, rfl, h3, h5, h6, h7⟩
        cases ex <;> simp only [exE, Option.some.injEq] at h1 <;> first | (cases h1; done) | skip
        · exact fin
        · exact absurd h1.symm (g0 _)
        · exact fin
      · cases h
    · cases h
theorem run_enter {f : FuncId} {args cap : Array Value} {w : World} (h : CallOk P f) : (invoke (.fn (.func f) cap) args).run P w = .ok (.enter f (args ++ cap)) w := by
  obtain ⟨fn, hfn, hbody, hname⟩ := h
  have hb : fn.body.isNone = false := by cases hh : fn.body <;> simp_all
  simp only [invoke, callFunc, Sem.run_bind]
  simp only [program, Sem.run, Result.andThen_ok, hfn, hname, hb, Bool.false_eq_true, if_false]
  rfl
theorem leaves_ok {fn : Func} {tmps : Array Value} {R : Ending → World → Prop} {df : FuncId → X → Hp → Nat → Option Outs} {e0 : Env} (hdf : DfOk P B e0 df) : ∀ {dm : List DM} {ds : List Deferred} {hp : Hp} {nx : Nat} {cl : Outs} {w : World} {e : Env} {U : Nat → Prop}, e0.le e → Marks e dm ds → Fit B e hp U w → (∀ id, nx ≤ id → ¬ U id) → closeD df dm hp nx = some cl →
    (∀ hp' nx' e' U' w', (undX, hp', nx') ∈ cl → e.le e' → Fit B e' hp' U' w' → (∀ id, U' id → U id ∨ (nx ≤ id ∧ id < nx')) → nx ≤ nx' → ∃ v, (results fn tmps).run P w' = .ok v w' ∧ R (.returned v) w') → LeavesInM Fence.wide 0 P fn tmps R ds .returning w
  | [], ds, hp, nx, cl, w, e, U, hle, hm, hf, hnx, hc, h => by
    simp only [Marks] at hm
    subst hm
    simp only [closeD, Option.some.injEq] at hc
    subst hc
    exact h hp nx e U w List.mem_cons_self (Env.le_refl e) hf (fun id h => .inl h) (Nat.le_refl _)
  | .m id :: dm, ds, hp, nx, cl, w, e, U, hle, hm, hf, hnx, hc, h => by
    obtain ⟨z, l', h1, rfl, h3⟩ := hm
    simp only [closeD] at hc
    split at hc
    · rename_i hb
      split at hc
      · rename_i hp1 hput
        obtain ⟨o, g1, g2⟩ := hf.obj id _ z hb h1
        have g2 : o = .deferred (some []) := g2
        subst g2
        refine ⟨(fun h => nomatch h), .inl ⟨z.b, _, rfl, run_takeDeferred g1, ?_⟩⟩
        refine leaves_ok hdf hle h3 ((hf.drop hput).world (step_putObj w z.b _) (fun b hb' => ?_)) hnx hc h
        cases hb'
        refine ⟨hf.own _ _ _ hb h1 rfl, (fun m s r c hh => by rw [g1] at hh; cases hh), fun id' bl z' hbl hz' hzz => ?_⟩
        rw [put_find _ _ _ _ _ hput] at hbl
        split at hbl
        · cases hbl
        · rename_i hne; exact hne (hf.inj _ _ _ _ _ _ hbl hb hz' h1 hzz)
      · cases hc
    · cases hc
  | .c f x :: dm, ds, hp, nx, cl, w, e, U, hle, hm, hf, hnx, hc, h => by
    obtain ⟨cap, args, l', h1, rfl, h3⟩ := hm
    simp only [closeD] at hc
    split at hc
    · rename_i outs ho
      obtain ⟨g1, g2⟩ := hdf f x hp nx outs e U w _ hle ho hf hnx h1
      refine ⟨(fun h => nomatch h), .inr ⟨(fun h => by simp [Fence.wide] at h), .func f, cap, f, args ++ cap, rfl, run_enter g1, fun _ _ => trivial, ?_⟩⟩
      have ht : (args.toList ++ cap.toList).toArray = args ++ cap := by apply Array.ext'; simp
      rw [ht] at g2
      refine ⟨g2.1, fun c cs hu hr => ?_⟩
      obtain ⟨en, u', w', fr, ⟨hp', nx', e', U', v, k1, rfl, rfl, k2, k3, k4, k5⟩, r1, r2⟩ := g2.2 c cs hu hr
      refine ⟨_, _, w', fr, ?_, r1, r2⟩
      obtain ⟨cl', j1, j2⟩ := bindS_mem hc _ k1
      show LeavesInM Fence.wide 0 P fn tmps R l' (settle .returning) w'
      refine leaves_ok hdf (Env.le_trans hle k2) (h3.mono k2) k3 (fresh_after hnx k4 k5) j1 fun hp2 nx2 e2 U2 w2 m1 m2 m3 m4 m5 => h hp2 nx2 e2 U2 w2 (j2 _ m1) (Env.le_trans k2 m2) m3 (fun id hid => ?_) (Nat.le_trans k4 m5)
      rcases m4 id hid with q | ⟨q1, q2⟩
      · rcases k5 id q with q | ⟨q1, q2⟩
        · exact .inl q
        · exact .inr ⟨q1, by omega⟩
      · exact .inr ⟨by omega, q2⟩
    · cases hc
theorem resAll_mem {fr : Tr X} {rs : List ResultVar} : ∀ {cl o : Outs}, resAll τ fr rs cl = some o → ∀ y hp nx, (y, hp, nx) ∈ cl → ∃ l, resX τ fr hp rs = some l ∧ (retX l, hp, nx) ∈ o
  | [], _, _, _, _, _, h => nomatch h
  | (_, _, _) :: r, o, h, y, hp, nx, hm => by
    simp only [resAll] at h
    split at h
    · rename_i l outs h1 h2
      cases h
      rcases List.mem_cons.1 hm with hm | hm
      · cases hm; exact ⟨l, h1, List.mem_cons_self⟩
      · obtain ⟨l', g1, g2⟩ := resAll_mem h2 y hp nx hm
        exact ⟨l', g1, List.mem_cons_of_mem _ g2⟩
    · cases h
theorem retE_mem {df : FuncId → X → Hp → Nat → Option Outs} {rs : List ResultVar} : ∀ {r : Fin'} {outs : Outs}, retE df τ rs r = some outs → ∀ x s, (x, s) ∈ r → (∀ id, x ≠ .x id) ∧ ∃ cl, closeD df s.dm s.hp s.nx = some cl ∧ ∀ y hp nx, (y, hp, nx) ∈ cl → ∃ l, resX τ s.fr hp rs = some l ∧ (retX l, hp, nx) ∈ outs
  | [], _, _, _, _, h => nomatch h
  | (y, t) :: r, outs, h, x, s, hm => by
    have key : (match closeD df t.dm t.hp t.nx, retE df τ rs r with
        | some cl, some outs => (match resAll τ t.fr rs cl with
          | some o => some (o ++ outs)
          | none => none)
        | _, _ => none) = some outs → (∀ id, y ≠ .x id) → (∀ id, x ≠ .x id) ∧ ∃ cl, closeD df s.dm s.hp s.nx = some cl ∧ ∀ y hp nx, (y, hp, nx) ∈ cl → ∃ l, resX τ s.fr hp rs = some l ∧ (retX l, hp, nx) ∈ outs := by
      intro h hy
      split at h
      · rename_i cl outs' h1 h2
        split at h
        · rename_i o h3
          cases h
          rcases List.mem_cons.1 hm with hm | hm
          · cases hm
            exact ⟨hy, cl, h1, fun y hp nx hh => let ⟨l, g1, g2⟩ := resAll_mem h3 y hp nx hh; ⟨l, g1, List.mem_append_left _ g2⟩⟩
          · obtain ⟨g0, cl', g1, g2⟩ := retE_mem h2 x s hm
            exact ⟨g0, cl', g1, fun y hp nx hh => let ⟨l, j1, j2⟩ := g2 y hp nx hh; ⟨l, j1, List.mem_append_right _ j2⟩⟩
        · cases h
      · cases h
    cases y with
    | n => simp only [retE] at h; exact key h fun _ h => nomatch h
    | r => simp only [retE] at h; exact key h fun _ h => nomatch h
    | x id => simp only [retE] at h; cases h
theorem acall_ok (hm : P.follows .mixedOrders = true) (hτ : TyOk P τ) (hF : FnsOk P fns) : ∀ d, CallGood P B (acall P τ fns fuel d)
  | 0 => fun e cr hcr f args hp nx outs e' U w vs hle h => (nomatch h)
  | d + 1 => by
    intro e0 cr hcr f args hp nx outs e U w vs hle h hf hnx hv
    simp only [acall] at h
    split at h
    · cases h
    · rename_i F hFf
      obtain ⟨fn, f1, f2, f3, f4, f5, f6⟩ := hF f F hFf
      split at h
      · rename_i fr hfr
        split at h
        · rename_i fouts hx
          refine ⟨⟨fn, f1, by simp [f2], f3⟩, callsIn_of_wp_marks f1 f2 trivial ?_ rfl⟩
          have hkn := init_kn hf.env hfr hv
          rw [← f5] at hkn
          have hw := (aexec_ok (B := B) (n := F.n) (pl := plAt F.pl) hm hτ (acall_ok hm hτ hF d) fuel).1 cr none F.code ⟨fr, [], hp, nx⟩ fouts e U _ w (hcr.mono hle) trivial f6 (by rw [← f5]; exact hkn) hf hnx hx
          refine wpIn_mono hw ?_
          rintro ex a' w' ⟨x, s, e', U', h1, h2, h3, h4, h5, h6, h7⟩
          obtain ⟨g0, cl, g1, g2⟩ := retE_mem h x s h2
          have fin : LeavesInM Fence.wide 0 P fn a'.tmps (CallPost B e U nx outs) a'.defers .returning w' := by
            refine leaves_ok (adefer_ok hm hτ hF (acall_ok hm hτ hF d) hcr) (Env.le_trans hle h3) h4.1.2 h5 (fresh_after hnx h6 h7) g1 fun hp2 nx2 e2 U2 w2 m1 m2 m3 m4 m5 => ?_
            obtain ⟨l, j1, j2⟩ := g2 _ _ _ m1
            obtain ⟨vs', k1, k2⟩ := resX_run hτ (h4.mono m2) m3 j1
            refine ⟨rval vs', results_run (full_kn h4 w2) (full_sat a' F.n w2) f4 k2, retX l, hp2, nx2, e2, rval vs', j2, rfl, Env.le_trans h3 m2, retX_den k1, m3.used fun id hid => ?_⟩
            rcases m4 id hid with q | ⟨q1, q2⟩
            · rcases h7 id q with q | ⟨q1, q2⟩
              · exact .inl q
              · exact .inr ⟨q1, by omega⟩
            · exact .inr ⟨Nat.le_trans h6 q1, q2⟩
          cases ex <;> simp only [exE, Option.some.injEq] at h1 <;> first | (cases h1; done) | skip
          · exact fin
          · exact absurd h1.symm (g0 _)
          · exact fin
        · cases h
      · cases h
def treeOf {α : Type} : List (Nat × α) → Tr α → Tr α
  | [], t => t
  | p :: l, t => match put 40 t p.1 (some p.2) with
    | some t' => treeOf l t'
    | none => t
theorem treeOf_ok {α : Type} {Q : Nat → α → Prop} : ∀ {l : List (Nat × α)} {t : Tr α}, (∀ p ∈ l, Q p.1 p.2) → (∀ k x, find t k = some x → Q k x) → ∀ k x, find (treeOf l t) k = some x → Q k x
  | [], t, _, ht, k, x, h => ht k x h
  | p :: l, t, hl, ht, k, x, h => by
    simp only [treeOf] at h
    split at h
    · rename_i t' ht'
      refine treeOf_ok (fun q hq => hl q (List.mem_cons_of_mem _ hq)) (fun k x hx => ?_) k x h
      rw [put_find _ _ _ _ _ ht'] at hx
      split at hx
      · rename_i e1
        cases hx
        subst e1
        exact hl p List.mem_cons_self
      · exact ht k x hx
    · exact ht k x h
theorem acall_call (hF : FnsOk P fns) {d : Nat} {cr : CallF} {f : FuncId} {args : X} {hp : Hp} {nx : Nat} {outs : Outs} (h : acall P τ fns fuel d cr f args hp nx = some outs) : CallOk P f := by
  cases d with
  | zero => cases h
  | succ d =>
    simp only [acall] at h
    split at h
    · cases h
    · rename_i F hFf
      obtain ⟨fn, f1, f2, f3, _⟩ := hF f F hFf
      exact ⟨fn, f1, by simp [f2], f3⟩
/-- The names at the outset: the program's own variables. -/
def env0 (vals : Nat → Value) : Env := fun g => if g < 1024 then some ⟨g, 0, 0, 0, none, vals g⟩ else none
theorem env0_g (vals : Nat → Value) : EnvG (env0 vals) := fun g hg => by simp [env0, hg]
/-- What is known of the program's own variables. -/
def GlobIn (F : PH) (gl : List (Nat × X)) : Prop := ∀ p ∈ gl, p.1 < 1024 ∧ ∃ vs c t fr, F p.1 = some (.cells c t fr) ∧ (∀ vals, denL (env0 vals) p.2 = some vs) ∧ ∀ (j : Nat) v, vs[j]? = some v → c[j]? = some v
def hp0 (gl : List (Nat × X)) : Hp := treeOf (gl.map fun p => (p.1, Blk.r p.2)) .lf
/-- **A call whose arguments are known, as a contract**: nothing that lay there turns, and such a value comes back. -/
theorem closed_ok (hm : P.follows .mixedOrders = true) (hτ : TyOk P τ) (hF : FnsOk P fns) {d : Nat} {f : FuncId} {args y : X} {outs : Outs} {vs : List Value} {v : Value} {gl : List (Nat × X)} (vals : Nat → Value) (h : acall P τ fns fuel d (fun _ _ _ _ => none) f args (hp0 gl) 1024 = some outs) (hv : denL (env0 vals) args = some vs)
    (ho : ∀ p ∈ outs, p.1 = y) (hy : den (env0 vals) y = some v) {F : PH} (hgl : GlobIn F gl) : PFn P f vs F (fun v' F' => v' = v ∧ F' = F) := by
  have key : ∀ w : World, F.In w → CallOk P f ∧ CallsIn Fence.wide 0 P f vs.toArray w (CallPost w (env0 vals) (fun id => id < 1024) 1024 outs) := by
    intro w hw
    have hfind : ∀ id b, find (hp0 gl) id = some b → ∃ l, (id, l) ∈ gl ∧ b = Blk.r l := treeOf_ok (Q := fun id b => ∃ l, (id, l) ∈ gl ∧ b = Blk.r l) (fun p hp => by
      obtain ⟨q, hq, rfl⟩ := List.mem_map.1 hp
      exact ⟨q.2, hq, rfl⟩) (fun k x hx => by rw [find_lf] at hx; cases hx)
    have he0 : ∀ id z, env0 vals id = some z → id < 1024 ∧ z = ⟨id, 0, 0, 0, none, vals id⟩ := fun id z hz => by
      unfold env0 at hz
      split at hz
      · rename_i hlt; cases hz; exact ⟨hlt, rfl⟩
      · cases hz
    refine acall_ok (B := w) hm hτ hF d (env0 vals) _ (fun _ _ _ _ _ _ _ _ _ _ _ h => by cases h) f args (hp0 gl) 1024 outs (env0 vals) (fun id => id < 1024) w vs (Env.le_refl _) h ⟨Later.refl _ _, fun id z hz => (he0 id z hz).1, fun id b hb => ?_, fun id b z hb hz => ?_, fun id b z hb hz h0 => ?_, fun id id' b b' z z' _ _ hz hz' hzz => ?_, env0_g vals⟩ (fun id hid hlt => absurd hlt (by omega)) hv
    · obtain ⟨l, hl, rfl⟩ := hfind id b hb
      have := (hgl _ hl).1
      simp [env0, this]
    · obtain ⟨l, hl, rfl⟩ := hfind id b hb
      obtain ⟨_, vs', c, t, fr, h1, h2, h3⟩ := hgl _ hl
      obtain ⟨_, rfl⟩ := he0 id z hz
      exact ⟨_, hw _ _ h1, vs', c, t, fr, rfl, h2 vals, h3, rfl⟩
    · obtain ⟨l, hl, rfl⟩ := hfind id b hb
      cases h0
    · obtain ⟨_, rfl⟩ := he0 id z hz
      obtain ⟨_, rfl⟩ := he0 id' z' hz'
      exact hzz
  refine ⟨acall_call hF h, fun w hw => (callsIn_wide.1 (key w hw.f).2).mono ?_⟩
  rintro en w' ⟨y', hp', nx', e', u, h1, rfl, h3, h4, h5⟩
  have := ho _ h1
  subst this
  have hu := denM h3 hy
  rw [h4] at hu
  cases hu
  refine ⟨v, F, [], rfl, ⟨rfl, rfl, rfl⟩, ?_⟩
  refine ⟨fun b o hb => (h5.late.block b (hw.f.lt hb) (fun h => h)).trans (hw.f b o hb), (fun _ h => nomatch h), List.Pairwise.nil, (fun _ h => nomatch h), List.Pairwise.nil, ⟨h5.late.os, h5.late.tape, h5.late.output, h5.late.size, fun k hk _ => h5.late.block k hk (fun h => h)⟩, PH.le_refl _, fun b hb => .inl hb⟩
end
/-! ### Tables -/
def mkAFd (fn : Func) (pl : List (Nat × AP)) : AFd := ⟨fn.body.getD .skip, fn.ntmps, fn.results.toList, pl⟩
def AFdOk (P : Program) (f : FuncId) (F : AFd) : Prop := ∃ fn, P.funcs[f]? = some fn ∧ fn.body = some F.code ∧ (fn.name == "runtime.NumGoroutine") = false ∧ fn.results = F.rs.toArray ∧ fn.ntmps = F.n ∧ codeOK (plAt F.pl) F.code = true
theorem AFdOk.mk {P : Program} {f : FuncId} {fn : Func} {pl : List (Nat × AP)} (h1 : P.funcs[f]? = some fn) (h2 : fn.body.isSome = true) (h3 : (fn.name == "runtime.NumGoroutine") = false) (h4 : codeOK (plAt pl) (fn.body.getD .skip) = true) : AFdOk P f (mkAFd fn pl) := by
  obtain ⟨c, hc⟩ := Option.isSome_iff_exists.1 h2
  exact ⟨fn, h1, by simp [mkAFd, hc], h3, by simp [mkAFd], rfl, h4⟩
def fdTree (l : List (Nat × AFd)) : Tr AFd := treeOf l .lf
theorem FnsOk.mk {P : Program} {l : List (Nat × AFd)} (h : ∀ p ∈ l, AFdOk P p.1 p.2) : FnsOk P (find (fdTree l)) :=
  fun f F hF => treeOf_ok (Q := fun f F => AFdOk P f F) h (fun k x hx => by rw [find_lf] at hx; cases hx) f F hF
def tyPut (P : Program) : Nat → Tr TD → Tr TD
  | 0, t => t
  | k + 1, t => match put 40 t k (ty P k) with
    | some t' => tyPut P k t'
    | none => t
/-- The program's types (each looked at only where it is asked for). -/
def tyTree (P : Program) (n : Nat) : Ty := tyPut P n .lf
theorem tyPut_ok {P : Program} : ∀ {n : Nat} {t : Tr TD}, TyOk P t → TyOk P (tyPut P n t)
  | 0, t, h => h
  | k + 1, t, h => by
    simp only [tyPut]
    split
    · rename_i t' ht'
      refine tyPut_ok fun j D hj => ?_
      rw [put_find _ _ _ _ _ ht'] at hj
      split at hj
      · rename_i e1; rw [e1]; exact hj
      · exact h j D hj
    · exact h
theorem tyTree_ok (P : Program) (n : Nat) : TyOk P (tyTree P n) := tyPut_ok fun t D h => by rw [find_lf] at h; cases h
end Go.AM
