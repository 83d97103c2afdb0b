/- The evaluator, part 18: functions; a call whose arguments are known, as a contract. -/
import Derived.Test.YtidoomdkoipaeaaGreatDoorF17
set_option linter.unusedVariables false
set_option linter.unusedSectionVars false
set_option linter.unusedSimpArgs false
namespace Go.AM
open Go Go.RowKit Go.Eng
/-- What the evaluator is told of a function. -/
structure AFd where
  code : Code
  n : Nat
  rs : List ResultVar
  pl : List (Nat × AP)
def plAt : List (Nat × AP) → Nat → AP
  | [], _ => .done
  | (k, p) :: l, id => match Nat.beq k id with
    | true => p
    | false => plAt l id
def FnsOk (P : Program) (fns : FuncId → Option AFd) : Prop :=
  ∀ f F, fns f = some F → ∃ fn, P.funcs[f]? = some fn ∧ fn.body = some F.code ∧ (fn.name == "runtime.NumGoroutine") = false ∧ fn.results = F.rs.toArray ∧ fn.ntmps = F.n ∧ codeOK (plAt F.pl) F.code = true
def initX (n : Nat) : Nat → X → Tr X → Option (Tr X)
  | _, .nl, fr => some fr
  | i, .cs x l, fr => (match Nat.blt i n, put 40 fr i (some x) with
    | true, some fr' => initX n (i + 1) l fr'
    | _, _ => none)
  | _, _, _ => none
def closeM : List Nat → Hp → Option Hp
  | [], hp => some hp
  | id :: r, hp => (match find hp id with
    | some .df => (match put 40 hp id none with
      | some hp' => closeM r hp'
      | none => none)
    | _ => none)
def resX (τ : Ty) (fr : Tr X) (hp : Hp) : List ResultVar → Option X
  | [] => some .nl
  | .tmp t :: r => (match find fr t, resX τ fr hp r with
    | some x, some l => some (.cs x l)
    | _, _ => none)
  | .cell a t :: r => (match find fr a, resX τ fr hp r with
    | some (.p id off), some l => (match ldX τ hp t id off with
      | some x => some (.cs x l)
      | none => none)
    | _, _ => none)
def retX : X → X
  | .cs v .nl => v
  | l => .tup l
def retE (τ : Ty) (rs : List ResultVar) : Fin' → Option Outs
  | [] => some []
  | (.x _, _) :: _ => none
  | (_, s) :: r => (match closeM s.dm s.hp, retE τ rs r with
    | some hp', some outs => (match resX τ s.fr hp' rs with
      | some l => some ((retX l, hp', s.nx) :: outs)
      | none => none)
    | _, _ => none)
def acall (P : Program) (τ : Ty) (fns : FuncId → Option AFd) (fuel : Nat) : Nat → CallF → CallF
  | 0, _, _, _, _, _ => none
  | d + 1, cr, f, args, hp, nx => (match fns f with
    | none => none
    | some F => (match initX F.n 0 args .lf with
      | some fr => (match aexec P τ (acall P τ fns fuel d) (plAt F.pl) F.n fuel cr none F.code ⟨fr, [], hp, nx⟩ with
        | some outs => retE τ F.rs outs
        | none => none)
      | none => none))
section
variable {P : Program} {B : World} {n : Nat} {τ : Ty} {fns : FuncId → Option AFd} {fuel : Nat}
theorem initX_run {e : Env} : ∀ {args : X} {i : Nat} {fr fr' : Tr X} {vs : List Value}, initX n i args fr = some fr' → denL e args = some vs → i + vs.length ≤ n ∨ vs = [] → i + vs.length ≤ n ∨ vs = [] := fun _ _ h => h
theorem initX_len {e : Env} : ∀ {args : X} {i : Nat} {fr fr' : Tr X} {vs : List Value}, initX n i args fr = some fr' → denL e args = some vs → vs = [] ∨ i + vs.length ≤ n := by
  intro args
  induction args with
  | cs x l _ ih =>
    intro i fr fr' vs h hv
    simp only [initX] at h
    split at h
    · rename_i fr1 hlt hput
      have hlt := bltT.1 hlt
      rcases denL_cases hv with ⟨h0, _⟩ | ⟨a', b', v, m, h0, rfl, g1, g2⟩
      · cases h0
      · cases h0
        rcases ih h g2 with rfl | h'
        · exact .inr (by simp; omega)
        · exact .inr (by simp; omega)
    · cases h
  | nl => intro i fr fr' vs h hv; simp only [denL, Option.some.injEq] at hv; exact .inl hv.symm
  | _ => intro i fr fr' vs h; simp [initX] at h
theorem initX_find {e : Env} : ∀ {args : X} {i : Nat} {fr fr' : Tr X} {vs : List Value}, initX n i args fr = some fr' → denL e args = some vs → ∀ d x, find fr' d = some x → (find fr d = some x ∧ (d < i ∨ i + vs.length ≤ d)) ∨ ∃ v, i ≤ d ∧ vs[d - i]? = some v ∧ den e x = some v ∧ d < n := by
  intro args
  induction args with
  | cs y l _ ih =>
    intro i fr fr' vs h hv d x hx
    simp only [initX] at h
    split at h
    · rename_i fr1 hlt hput
      have hlt := bltT.1 hlt
      rcases denL_cases hv with ⟨h0, _⟩ | ⟨a', b', v, m, h0, rfl, g1, g2⟩
      · cases h0
      · cases h0
        rcases ih h g2 d x hx with ⟨k1, k2⟩ | ⟨u, k1, k2, k3, k4⟩
        · rw [put_find _ _ _ _ _ hput] at k1
          split at k1
          · rename_i e1
            cases k1
            subst e1
            exact .inr ⟨v, Nat.le_refl _, by simp, g1, hlt⟩
          · rename_i e1
            exact .inl ⟨k1, by simp at k2 ⊢; omega⟩
        · refine .inr ⟨u, by omega, ?_, k3, k4⟩
          obtain ⟨j, hj⟩ : ∃ j, d - i = j + 1 := ⟨d - i - 1, by omega⟩
          rw [hj, List.getElem?_cons_succ, ← k2]
          congr 1
          omega
    · cases h
  | nl =>
    intro i fr fr' vs h hv d x hx
    simp only [initX, Option.some.injEq] at h
    subst h
    simp only [denL, Option.some.injEq] at hv
    subst hv
    exact .inl ⟨hx, by simp; omega⟩
  | _ => intro i fr fr' vs h; simp [initX] at h
theorem init_kn {e : Env} (hg : EnvG e) {args : X} {fr : Tr X} {vs : List Value} (h : initX n 0 args .lf = some fr) (hv : denL e args = some vs) : KnX e n fr [] { tmps := vs.toArray ++ Array.replicate (n - vs.toArray.size) undef, defers := [] } := by
  have hl : vs.length ≤ n := by
    rcases initX_len h hv with rfl | h'
    · simp
    · omega
  refine ⟨⟨hg, rfl⟩, by simp; omega, fun d x hd => ?_⟩
  rcases initX_find h hv d x hd with ⟨k1, _⟩ | ⟨v, k1, k2, k3, k4⟩
  · rw [find_lf] at k1; cases k1
  · refine ⟨k4, v, k3, ?_⟩
    have hdl : d < vs.length := by
      rcases Nat.lt_or_ge d vs.length with h' | h'
      · exact h'
      · rw [List.getElem?_eq_none (by omega)] at k2; cases k2
    rw [Nat.sub_zero, List.getElem?_eq_getElem hdl] at k2
    simp only [Option.some.injEq] at k2
    simp [Array.getD, hdl, k2]
    omega
theorem resX_run (hτ : TyOk P τ) {e : Env} {fr : Tr X} {dm : List Nat} {hp : Hp} {U : Nat → Prop} {a : Act} {w : World} (hk : KnX e n fr dm a) (hf : Fit B e hp U w) : ∀ {rs : List ResultVar} {l : X}, resX τ fr hp rs = some l → ∃ vs, denL e l = some vs ∧ rvals P (fullS a n w) rs = some vs
  | [], l, h => by simp only [resX, Option.some.injEq] at h; subst h; exact ⟨[], rfl, rfl⟩
  | .tmp t :: r, l, h => by
    simp only [resX] at h
    split at h
    · rename_i x l' h1 h2
      cases h
      obtain ⟨vs, g1, g2⟩ := resX_run hτ hk hf h2
      obtain ⟨v, k1, _, k2⟩ := ev_full hk w (x := .tmp t) h1
      refine ⟨v :: vs, by simp only [denL, k1, g1], ?_⟩
      have k2 : Eng.look (fullS a n w).L t = some (.v v) := k2
      simp only [rvals, rval1, k2, g2, AV.val_v]
    · cases h
  | .cell c t :: r, l, h => by
    simp only [resX] at h
    split at h
    · rename_i id off l' h1 h2
      split at h
      · rename_i x hx
        cases h
        obtain ⟨vs, g1, g2⟩ := resX_run hτ hk hf h2
        obtain ⟨v, k1, _, k2⟩ := ev_full hk w (x := .tmp c) h1
        have k2 : Eng.look (fullS a n w).L c = some (.v v) := k2
        obtain ⟨z, hz, rfl⟩ := den_p k1
        obtain ⟨u, j1, j2⟩ := ldX_run hτ hf a n hz hx
        exact ⟨u :: vs, by simp only [denL, j1, g1], by simp only [rvals, rval1, k2, j2, g2, AV.val_v]⟩
      · cases h
    · cases h
theorem retX_den {e : Env} {l : X} {vs : List Value} (h : denL e l = some vs) : den e (retX l) = some (rval vs) := by
  rcases denL_cases h with ⟨rfl, rfl⟩ | ⟨a, b, v, m, rfl, rfl, h1, h2⟩
  · rfl
  · rcases denL_cases h2 with ⟨rfl, rfl⟩ | ⟨a2, b2, v2, m2, rfl, rfl, h3, h4⟩
    · exact h1
    · simp only [retX, den, h]
      rfl
theorem leaves_ok {fn : Func} {tmps : Array Value} {R : Ending → World → Prop} {e : Env} {U : Nat → Prop} : ∀ {dm : List Nat} {ds : List Deferred} {hp hp' : Hp} {w : World}, Marks e dm ds → Fit B e hp U w → closeM dm hp = some hp' →
    (∀ w', Fit B e hp' U w' → ∃ v, (results fn tmps).run P w' = .ok v w' ∧ R (.returned v) w') → LeavesInM Fence.wide 0 P fn tmps R ds .returning w
  | [], ds, hp, hp', w, hm, hf, hc, h => by
    simp only [Marks] at hm
    subst hm
    simp only [closeM, Option.some.injEq] at hc
    subst hc
    exact h w hf
  | id :: dm, ds, hp, hp', w, hm, hf, hc, h => by
    obtain ⟨z, l', h1, rfl, h3⟩ := hm
    simp only [closeM] at hc
    split at hc
    · rename_i hb
      split at hc
      · rename_i hp1 hput
        obtain ⟨o, g1, g2⟩ := hf.obj id _ z hb h1
        have g2 : o = .deferred (some []) := g2
        subst g2
        refine ⟨(fun h => nomatch h), .inl ⟨z.b, _, rfl, run_takeDeferred g1, ?_⟩⟩
        refine leaves_ok h3 ((hf.drop hput).world (step_putObj w z.b _) (fun b hb' => ?_)) hc h
        cases hb'
        refine ⟨hf.own _ _ _ hb h1 rfl, (fun m s r c hh => by rw [g1] at hh; cases hh), fun id' bl z' hbl hz' hzz => ?_⟩
        rw [put_find _ _ _ _ _ hput] at hbl
        split at hbl
        · cases hbl
        · rename_i hne; exact hne (hf.inj _ _ _ _ _ _ hbl hb hz' h1 hzz)
      · cases hc
    · cases hc
theorem retE_mem {rs : List ResultVar} : ∀ {r : Fin'} {outs : Outs}, retE τ rs r = some outs → ∀ x s, (x, s) ∈ r → (∀ id, x ≠ .x id) ∧ ∃ hp' l, closeM s.dm s.hp = some hp' ∧ resX τ s.fr hp' rs = some l ∧ (retX l, hp', s.nx) ∈ outs
  | [], _, _, _, _, h => nomatch h
  | (y, t) :: r, outs, h, x, s, hm => by
    have key : ∀ {o : Option Outs}, (match closeM t.dm t.hp, retE τ rs r with
        | some hp', some outs => (match resX τ t.fr hp' rs with
          | some l => some ((retX l, hp', t.nx) :: outs)
          | none => none)
        | _, _ => none) = some outs → (∀ id, y ≠ .x id) → (∀ id, x ≠ .x id) ∧ ∃ hp' l, closeM s.dm s.hp = some hp' ∧ resX τ s.fr hp' rs = some l ∧ (retX l, hp', s.nx) ∈ outs := by
      intro o h hy
      split at h
      · rename_i hp' outs' h1 h2
        split at h
        · rename_i l h3
          cases h
          rcases List.mem_cons.1 hm with hm | hm
          · cases hm; exact ⟨hy, hp', l, h1, h3, List.mem_cons_self⟩
          · obtain ⟨g0, a, b, g1, g2, g3⟩ := retE_mem h2 x s hm
            exact ⟨g0, a, b, g1, g2, List.mem_cons_of_mem _ g3⟩
        · cases h
      · cases h
    cases y with
    | n => simp only [retE] at h; exact key (o := none) h fun _ h => nomatch h
    | r => simp only [retE] at h; exact key (o := none) h fun _ h => nomatch h
    | x id => simp only [retE] at h; cases h
theorem acall_ok (hm : P.follows .mixedOrders = true) (hτ : TyOk P τ) (hF : FnsOk P fns) : ∀ d, CallGood P B (acall P τ fns fuel d)
  | 0 => fun e cr hcr f args hp nx outs e' U w vs hle h => (nomatch h)
  | d + 1 => by
    intro e0 cr hcr f args hp nx outs e U w vs hle h hf hnx hv
    simp only [acall] at h
    split at h
    · cases h
    · rename_i F hFf
      obtain ⟨fn, f1, f2, f3, f4, f5, f6⟩ := hF f F hFf
      split at h
      · rename_i fr hfr
        split at h
        · rename_i fouts hx
          refine ⟨⟨fn, f1, by simp [f2], f3⟩, callsIn_of_wp_marks f1 f2 trivial ?_ rfl⟩
          have hkn := init_kn hf.env hfr hv
          rw [← f5] at hkn
          have hw := (aexec_ok (B := B) (n := F.n) (pl := plAt F.pl) hm hτ (acall_ok hm hτ hF d) fuel).1 cr none F.code ⟨fr, [], hp, nx⟩ fouts e U _ w (hcr.mono hle) trivial f6 (by rw [← f5]; exact hkn) hf hnx hx
          refine wpIn_mono hw ?_
          rintro ex a' w' ⟨x, s, e', U', h1, h2, h3, h4, h5, h6, h7⟩
          obtain ⟨g0, hp', l, g1, g2, g3⟩ := retE_mem h x s h2
          have fin : LeavesInM Fence.wide 0 P fn a'.tmps (CallPost B e U nx outs) a'.defers .returning w' := by
            refine leaves_ok h4.1.2 h5 g1 fun w2 hf2 => ?_
            obtain ⟨vs', k1, k2⟩ := resX_run hτ h4 hf2 g2
            refine ⟨rval vs', results_run (full_kn h4 w2) (full_sat a' F.n w2) f4 k2, retX l, hp', s.nx, e', rval vs', g3, rfl, h3, retX_den k1, hf2.used h7⟩
          cases ex <;> simp only [exE, Option.some.injEq] at h1 <;> first | (cases h1; done) | skip
          · exact fin
          · exact absurd h1.symm (g0 _)
          · exact fin
        · cases h
      · cases h
def treeOf {α : Type} : List (Nat × α) → Tr α → Tr α
  | [], t => t
  | p :: l, t => match put 40 t p.1 (some p.2) with
    | some t' => treeOf l t'
    | none => t
theorem treeOf_ok {α : Type} {Q : Nat → α → Prop} : ∀ {l : List (Nat × α)} {t : Tr α}, (∀ p ∈ l, Q p.1 p.2) → (∀ k x, find t k = some x → Q k x) → ∀ k x, find (treeOf l t) k = some x → Q k x
  | [], t, _, ht, k, x, h => ht k x h
  | p :: l, t, hl, ht, k, x, h => by
    simp only [treeOf] at h
    split at h
    · rename_i t' ht'
      refine treeOf_ok (fun q hq => hl q (List.mem_cons_of_mem _ hq)) (fun k x hx => ?_) k x h
      rw [put_find _ _ _ _ _ ht'] at hx
      split at hx
      · rename_i e1
        cases hx
        subst e1
        exact hl p List.mem_cons_self
      · exact ht k x hx
    · exact ht k x h
theorem acall_call (hF : FnsOk P fns) {d : Nat} {cr : CallF} {f : FuncId} {args : X} {hp : Hp} {nx : Nat} {outs : Outs} (h : acall P τ fns fuel d cr f args hp nx = some outs) : CallOk P f := by
  cases d with
  | zero => cases h
  | succ d =>
    simp only [acall] at h
    split at h
    · cases h
    · rename_i F hFf
      obtain ⟨fn, f1, f2, f3, _⟩ := hF f F hFf
      exact ⟨fn, f1, by simp [f2], f3⟩
/-- The names at the outset: the program's own variables. -/
def env0 (vals : Nat → Value) : Env := fun g => if g < 1024 then some ⟨g, 0, 0, 0, none, vals g⟩ else none
theorem env0_g (vals : Nat → Value) : EnvG (env0 vals) := fun g hg => by simp [env0, hg]
/-- What is known of the program's own variables. -/
def GlobIn (F : PH) (gl : List (Nat × X)) : Prop := ∀ p ∈ gl, p.1 < 1024 ∧ ∃ vs c t fr, F p.1 = some (.cells c t fr) ∧ (∀ vals, denL (env0 vals) p.2 = some vs) ∧ ∀ (j : Nat) v, vs[j]? = some v → c[j]? = some v
def hp0 (gl : List (Nat × X)) : Hp := treeOf (gl.map fun p => (p.1, Blk.r p.2)) .lf
/-- **A call whose arguments are known, as a contract**: nothing that lay there turns, and such a value comes back. -/
theorem closed_ok (hm : P.follows .mixedOrders = true) (hτ : TyOk P τ) (hF : FnsOk P fns) {d : Nat} {f : FuncId} {args y : X} {outs : Outs} {vs : List Value} {v : Value} {gl : List (Nat × X)} (vals : Nat → Value) (h : acall P τ fns fuel d (fun _ _ _ _ => none) f args (hp0 gl) 1024 = some outs) (hv : denL (env0 vals) args = some vs)
    (ho : ∀ p ∈ outs, p.1 = y) (hy : den (env0 vals) y = some v) {F : PH} (hgl : GlobIn F gl) : PFn P f vs F (fun v' F' => v' = v ∧ F' = F) := by
  have key : ∀ w : World, F.In w → CallOk P f ∧ CallsIn Fence.wide 0 P f vs.toArray w (CallPost w (env0 vals) (fun id => id < 1024) 1024 outs) := by
    intro w hw
    have hfind : ∀ id b, find (hp0 gl) id = some b → ∃ l, (id, l) ∈ gl ∧ b = Blk.r l := treeOf_ok (Q := fun id b => ∃ l, (id, l) ∈ gl ∧ b = Blk.r l) (fun p hp => by
      obtain ⟨q, hq, rfl⟩ := List.mem_map.1 hp
      exact ⟨q.2, hq, rfl⟩) (fun k x hx => by rw [find_lf] at hx; cases hx)
    have he0 : ∀ id z, env0 vals id = some z → id < 1024 ∧ z = ⟨id, 0, 0, 0, none, vals id⟩ := fun id z hz => by
      unfold env0 at hz
      split at hz
      · rename_i hlt; cases hz; exact ⟨hlt, rfl⟩
      · cases hz
    refine acall_ok (B := w) hm hτ hF d (env0 vals) _ (fun _ _ _ _ _ _ _ _ _ _ _ h => by cases h) f args (hp0 gl) 1024 outs (env0 vals) (fun id => id < 1024) w vs (Env.le_refl _) h ⟨Later.refl _ _, fun id z hz => (he0 id z hz).1, fun id b hb => ?_, fun id b z hb hz => ?_, fun id b z hb hz h0 => ?_, fun id id' b b' z z' _ _ hz hz' hzz => ?_, env0_g vals⟩ (fun id hid hlt => absurd hlt (by omega)) hv
    · obtain ⟨l, hl, rfl⟩ := hfind id b hb
      have := (hgl _ hl).1
      simp [env0, this]
    · obtain ⟨l, hl, rfl⟩ := hfind id b hb
      obtain ⟨_, vs', c, t, fr, h1, h2, h3⟩ := hgl _ hl
      obtain ⟨_, rfl⟩ := he0 id z hz
      exact ⟨_, hw _ _ h1, vs', c, t, fr, rfl, h2 vals, h3, rfl⟩
    · obtain ⟨l, hl, rfl⟩ := hfind id b hb
      cases h0
    · obtain ⟨_, rfl⟩ := he0 id z hz
      obtain ⟨_, rfl⟩ := he0 id' z' hz'
      exact hzz
  refine ⟨acall_call hF h, fun w hw => (callsIn_wide.1 (key w hw.f).2).mono ?_⟩
  rintro en w' ⟨y', hp', nx', e', u, h1, rfl, h3, h4, h5⟩
  have := ho _ h1
  subst this
  have hu := denM h3 hy
  rw [h4] at hu
  cases hu
  refine ⟨v, F, [], rfl, ⟨rfl, rfl, rfl⟩, ?_⟩
  refine ⟨fun b o hb => (h5.late.block b (hw.f.lt hb) (fun h => h)).trans (hw.f b o hb), (fun _ h => nomatch h), List.Pairwise.nil, (fun _ h => nomatch h), List.Pairwise.nil, ⟨h5.late.os, h5.late.tape, h5.late.output, h5.late.size, fun k hk _ => h5.late.block k hk (fun h => h)⟩, PH.le_refl _, fun b hb => .inl hb⟩
end
/-! ### Tables -/
def mkAFd (fn : Func) (pl : List (Nat × AP)) : AFd := ⟨fn.body.getD .skip, fn.ntmps, fn.results.toList, pl⟩
def AFdOk (P : Program) (f : FuncId) (F : AFd) : Prop := ∃ fn, P.funcs[f]? = some fn ∧ fn.body = some F.code ∧ (fn.name == "runtime.NumGoroutine") = false ∧ fn.results = F.rs.toArray ∧ fn.ntmps = F.n ∧ codeOK (plAt F.pl) F.code = true
theorem AFdOk.mk {P : Program} {f : FuncId} {fn : Func} {pl : List (Nat × AP)} (h1 : P.funcs[f]? = some fn) (h2 : fn.body.isSome = true) (h3 : (fn.name == "runtime.NumGoroutine") = false) (h4 : codeOK (plAt pl) (fn.body.getD .skip) = true) : AFdOk P f (mkAFd fn pl) := by
  obtain ⟨c, hc⟩ := Option.isSome_iff_exists.1 h2
  exact ⟨fn, h1, by simp [mkAFd, hc], h3, by simp [mkAFd], rfl, h4⟩
def fdTree (l : List (Nat × AFd)) : Tr AFd := treeOf l .lf
theorem FnsOk.mk {P : Program} {l : List (Nat × AFd)} (h : ∀ p ∈ l, AFdOk P p.1 p.2) : FnsOk P (find (fdTree l)) :=
  fun f F hF => treeOf_ok (Q := fun f F => AFdOk P f F) h (fun k x hx => by rw [find_lf] at hx; cases hx) f F hF
def tyRows (P : Program) : Nat → List (Nat × TD)
  | 0 => []
  | t + 1 => match ty P t with
    | some D => (t, D) :: tyRows P t
    | none => tyRows P t
def tyTree (P : Program) (n : Nat) : Ty := treeOf (tyRows P n) .lf
theorem tyRows_ok {P : Program} : ∀ n, ∀ p ∈ tyRows P n, ty P p.1 = some p.2
  | 0, p, h => nomatch h
  | t + 1, p, h => by
    simp only [tyRows] at h
    split at h
    · rename_i D hD
      rcases List.mem_cons.1 h with rfl | h
      · exact hD
      · exact tyRows_ok t p h
    · exact tyRows_ok t p h
theorem tyTree_ok (P : Program) (n : Nat) : TyOk P (tyTree P n) :=
  fun t D h => treeOf_ok (Q := fun t D => ty P t = some D) (tyRows_ok n) (fun k x hx => by rw [find_lf] at hx; cases hx) t D h
end Go.AM
