/- The evaluator, part 20: a run in parts: calls whose outcomes stand in a table. -/
import Derived.Test.YtmiekonofocboaaGreatDoorF19
set_option linter.unusedVariables false
set_option linter.unusedSectionVars false
set_option linter.unusedSimpArgs false
namespace Go.AM
open Go Go.RowKit Go.Eng
/-- A call that was evaluated ahead: its function, the next name, its arguments, the blocks that are known, its outcomes. -/
structure Ent where
  f : FuncId
  nx : Nat
  args : X
  hp : List (Nat × Blk)
  outs : List (X × List (Nat × Blk) × Nat)
def hpOf (l : List (Nat × Blk)) : Hp := treeOf l .lf
/-- Blocks, some of them put anew, some left out. -/
def upd (l ch : List (Nat × Blk)) (del : List Nat) : List (Nat × Blk) := ch ++ l.filter fun p => !(ch.any fun q => Nat.beq q.1 p.1) && !(del.any fun i => Nat.beq i p.1)
def subL (l : List (Nat × Blk)) (hp : Hp) : Bool := l.all fun p => match find hp p.1 with
  | some b => sameB b p.2
  | none => false
def outsOf (t : Ent) : Outs := t.outs.map fun o => (o.1, hpOf o.2.1, o.2.2)
theorem subL_find {l : List (Nat × Blk)} {hp : Hp} (h : subL l hp = true) : ∀ id b, find (hpOf l) id = some b → find hp id = some b :=
  treeOf_ok (Q := fun id b => find hp id = some b) (fun p hp' => by
    have := List.all_eq_true.1 h p hp'
    split at this
    · rename_i b hb; rw [hb, sameB_eq _ _ this]
    · cases this) (fun k x hx => by rw [find_lf] at hx; cases hx)
theorem Fit.sub {B : World} {e : Env} {hp hp' : Hp} {U : Nat → Prop} {w : World} (hf : Fit B e hp U w) (hsub : ∀ i b, find hp' i = some b → find hp i = some b) : Fit B e hp' U w :=
  ⟨hf.late, hf.use, fun i b h => hf.dom i b (hsub i b h), fun i b z h => hf.obj i b z (hsub i b h), fun i b z h => hf.own i b z (hsub i b h), fun i i' b b' z z' h h' => hf.inj i i' b b' z z' (hsub i b h) (hsub i' b' h'), hf.env⟩
abbrev Tab := Nat → Option Ent
/-- What stands under a key, if it fits. -/
def lookK (tab : Tab) (k : Nat) (f : FuncId) (args : X) (hp : Hp) (nx : Nat) : Option Outs :=
  match tab k with
  | none => none
  | some t => (match Nat.beq t.f f && Nat.beq t.nx nx && sameX t.args args && subL t.hp hp with
    | true => some (outsOf t)
    | false => none)
/-- The first entry of this next name, or the second. -/
def lookT (tab : Tab) (f : FuncId) (args : X) (hp : Hp) (nx : Nat) : Option Outs :=
  match lookK tab nx f args hp nx with
  | some o => some o
  | none => lookK tab (nx + 1048576) f args hp nx
def EntOk (P : Program) (t : Ent) : Prop := ∀ (B : World) (e : Env) (U : Nat → Prop) (w : World) (vs : List Value), Fit B e (hpOf t.hp) U w → (∀ id, t.nx ≤ id → ¬ U id) → denL e t.args = some vs → CallOk P t.f ∧ CallsIn Fence.wide 0 P t.f vs.toArray w (CallPost B e U t.nx (outsOf t))
def TabOk (P : Program) (tab : Tab) : Prop := ∀ nx t, tab nx = some t → EntOk P t
theorem lookK_ok {P : Program} {tab : Tab} (hT : TabOk P tab) {k : Nat} {f : FuncId} {args : X} {hp : Hp} {nx : Nat} {outs : Outs} (h : lookK tab k f args hp nx = some outs) {B : World} {e : Env} {U : Nat → Prop} {w : World} {vs : List Value} (hf : Fit B e hp U w) (hnx : ∀ id, nx ≤ id → ¬ U id) (hv : denL e args = some vs) :
    CallOk P f ∧ CallsIn Fence.wide 0 P f vs.toArray w (CallPost B e U nx outs) := by
  unfold lookK at h
  split at h
  · cases h
  · rename_i t ht
    split at h
    · rename_i hc
      cases h
      simp only [Bool.and_eq_true] at hc
      obtain ⟨⟨⟨h1, h2⟩, h3⟩, h4⟩ := hc
      have h1 := beqT.1 h1
      have h2 := beqT.1 h2
      have h3 := sameX_eq h3
      subst h1 h2 h3
      exact hT _ t ht B e U w vs (hf.sub (subL_find h4)) hnx hv
    · cases h
theorem lookT_ok {P : Program} {tab : Tab} (hT : TabOk P tab) {f : FuncId} {args : X} {hp : Hp} {nx : Nat} {outs : Outs} (h : lookT tab f args hp nx = some outs) {B : World} {e : Env} {U : Nat → Prop} {w : World} {vs : List Value} (hf : Fit B e hp U w) (hnx : ∀ id, nx ≤ id → ¬ U id) (hv : denL e args = some vs) :
    CallOk P f ∧ CallsIn Fence.wide 0 P f vs.toArray w (CallPost B e U nx outs) := by
  unfold lookT at h
  split at h
  · rename_i o ho
    cases h
    exact lookK_ok hT ho hf hnx hv
  · exact lookK_ok hT h hf hnx hv
def acallT (P : Program) (τ : Ty) (fns : FuncId → Option AFd) (fuel : Nat) (tab : Tab) : Nat → CallF → CallF
  | 0, _, _, _, _, _ => none
  | d + 1, cr, f, args, hp, nx => (match lookT tab f args hp nx with
    | some outs => some outs
    | none => (match fns f with
      | none => none
      | some F => (match initX F.n 0 args .lf with
        | some fr => (match aexec P τ (acallT P τ fns fuel tab d) (plAt F.pl) F.n fuel cr none F.code ⟨fr, [], hp, nx⟩ with
          | some outs => retE (adefer P τ fns fun G => aexec P τ (acallT P τ fns fuel tab d) (plAt G.pl) G.n fuel cr none) τ F.rs outs
          | none => none)
        | none => none)))
section
variable {P : Program} {B : World} {n : Nat} {τ : Ty} {fns : FuncId → Option AFd} {fuel : Nat} {tab : Tab}
theorem body_ok (hm : P.follows .mixedOrders = true) (hτ : TyOk P τ) (hF : FnsOk P fns) {call : CallF → CallF} (hc : CallGood P B call) {e0 : Env} {cr : CallF} (hcr : CrOk P B e0 cr) {f : FuncId} {args : X} {hp : Hp} {nx : Nat} {outs : Outs} {e : Env} {U : Nat → Prop} {w : World} {vs : List Value} (hle : e0.le e)
    (h : (match fns f with
      | none => none
      | some F => (match initX F.n 0 args .lf with
        | some fr => (match aexec P τ call (plAt F.pl) F.n fuel cr none F.code ⟨fr, [], hp, nx⟩ with
          | some outs => retE (adefer P τ fns fun G => aexec P τ call (plAt G.pl) G.n fuel cr none) τ F.rs outs
          | none => none)
        | none => none)) = some outs) (hf : Fit B e hp U w) (hnx : ∀ id, nx ≤ id → ¬ U id) (hv : denL e args = some vs) :
    CallOk P f ∧ CallsIn Fence.wide 0 P f vs.toArray w (CallPost B e U nx outs) := by
  split at h
  · cases h
  · rename_i F hFf
    obtain ⟨fn, f1, f2, f3, f4, f5, f6⟩ := hF f F hFf
    split at h
    · rename_i fr hfr
      split at h
      · rename_i fouts hx
        refine ⟨⟨fn, f1, by simp [f2], f3⟩, callsIn_of_wp_marks f1 f2 trivial ?_ rfl⟩
        have hkn := init_kn hf.env hfr hv
        rw [← f5] at hkn
        have hw := (aexec_ok (B := B) (n := F.n) (pl := plAt F.pl) hm hτ hc fuel).1 cr none F.code ⟨fr, [], hp, nx⟩ fouts e U _ w (hcr.mono hle) trivial f6 (by rw [← f5]; exact hkn) hf hnx hx
        refine wpIn_mono hw ?_
        rintro ex a' w' ⟨x, s, e', U', h1, h2, h3, h4, h5, h6, h7⟩
        obtain ⟨g0, cl, g1, g2⟩ := retE_mem h x s h2
        have fin : LeavesInM Fence.wide 0 P fn a'.tmps (CallPost B e U nx outs) a'.defers .returning w' := by
          refine leaves_ok (adefer_ok hm hτ hF hc hcr) (Env.le_trans hle h3) h4.1.2 h5 (fresh_after hnx h6 h7) g1 fun hp2 nx2 e2 U2 w2 m1 m2 m3 m4 m5 => ?_
          obtain ⟨l, j1, j2⟩ := g2 _ _ _ m1
          obtain ⟨vs', k1, k2⟩ := resX_run hτ (h4.mono m2) m3 j1
          refine ⟨rval vs', results_run (full_kn h4 w2) (full_sat a' F.n w2) f4 k2, retX l, hp2, nx2, e2, rval vs', j2, rfl, Env.le_trans h3 m2, retX_den k1, m3.used fun id hid => ?_⟩
          rcases m4 id hid with q | ⟨q1, q2⟩
          · rcases h7 id q with q | ⟨q1, q2⟩
            · exact .inl q
            · exact .inr ⟨q1, by omega⟩
          · exact .inr ⟨Nat.le_trans h6 q1, q2⟩
        cases ex <;> simp only [exE, Option.some.injEq] at h1 <;> first | (cases h1; done) | skip
        · exact fin
        · exact absurd h1.symm (g0 _)
        · exact fin
      · cases h
    · cases h
theorem acallT_ok (hm : P.follows .mixedOrders = true) (hτ : TyOk P τ) (hF : FnsOk P fns) (hT : TabOk P tab) : ∀ d, CallGood P B (acallT P τ fns fuel tab d)
  | 0 => fun e cr hcr f args hp nx outs e' U w vs hle h => (nomatch h)
  | d + 1 => by
    intro e0 cr hcr f args hp nx outs e U w vs hle h hf hnx hv
    simp only [acallT] at h
    split at h
    · rename_i outs' ho
      cases h
      exact lookT_ok hT ho hf hnx hv
    · exact body_ok hm hτ hF (acallT_ok hm hτ hF hT d) hcr hle h hf hnx hv
/-- What came is among the outcomes that are told, what is told of the blocks holds. -/
def covers (outs0 : Outs) (outs : List (X × List (Nat × Blk) × Nat)) : Bool :=
  outs0.all fun p => outs.any fun o => sameX p.1 o.1 && Nat.beq p.2.2 o.2.2 && subL o.2.1 p.2.1
def runE (P : Program) (τ : Ty) (fns : FuncId → Option AFd) (fuel : Nat) (tab : Tab) (d : Nat) (t : Ent) : Bool :=
  match acallT P τ fns fuel tab d (fun _ _ _ _ => none) t.f t.args (hpOf t.hp) t.nx with
  | some outs => covers outs t.outs
  | none => false
theorem EntOk.mk (hm : P.follows .mixedOrders = true) (hτ : TyOk P τ) (hF : FnsOk P fns) (hT : TabOk P tab) {d : Nat} {t : Ent} (h : runE P τ fns fuel tab d t = true) : EntOk P t := by
  intro B e U w vs hf hnx hv
  unfold runE at h
  split at h
  · rename_i outs ho
    obtain ⟨h1, h2⟩ := acallT_ok (B := B) hm hτ hF hT d e _ (fun _ _ _ _ _ _ _ _ _ _ _ h => by cases h) t.f t.args (hpOf t.hp) t.nx outs e U w vs (Env.le_refl _) ho hf hnx hv
    refine ⟨h1, (callsIn_wide.2 ((callsIn_wide.1 h2).mono ?_))⟩
    rintro en w' ⟨y, hp', nx', e', v, g1, rfl, g3, g4, g5⟩
    obtain ⟨o, ho1, ho2⟩ := List.any_eq_true.1 (List.all_eq_true.1 h _ g1)
    simp only [Bool.and_eq_true] at ho2
    obtain ⟨⟨k1, k2⟩, k3⟩ := ho2
    have k1 := sameX_eq k1
    have k2 := beqT.1 k2
    subst k1 k2
    exact ⟨_, hpOf o.2.1, _, e', v, List.mem_map.2 ⟨o, ho1, rfl⟩, rfl, g3, g4, g5.sub (subL_find k3)⟩
  · cases h
theorem TabOk.nil : TabOk P (fun _ => none) := fun _ _ h => nomatch h
def tabOf (l : List (Nat × Ent)) : Tab := find (treeOf l .lf)
theorem TabOk.of {l : List (Nat × Ent)} (h : ∀ t ∈ l, EntOk P t.2) : TabOk P (tabOf l) :=
  treeOf_ok (Q := fun _ t => EntOk P t) (fun p hp => h p hp) (fun k x hx => by rw [find_lf] at hx; cases hx)
/-- The whole call, as a contract. -/
theorem EntOk.law {f : FuncId} {args y : X} {gl : List (Nat × X)} {outs : List (X × List (Nat × Blk) × Nat)} (hcall : CallOk P f) (h : EntOk P ⟨f, 1024, args, gl.map fun p => (p.1, Blk.r p.2), outs⟩) (vals : Nat → Value) {vs : List Value} {v : Value} (hv : denL (env0 vals) args = some vs)
    (ho : ∀ p ∈ outs, p.1 = y) (hy : den (env0 vals) y = some v) {F : PH} (hgl : GlobIn F gl) : PFn P f vs F (fun v' F' => v' = v ∧ F' = F) := by
  have key : ∀ w : World, F.In w → CallOk P f ∧ CallsIn Fence.wide 0 P f vs.toArray w (CallPost w (env0 vals) (fun id => id < 1024) 1024 (outsOf ⟨f, 1024, args, gl.map fun p => (p.1, Blk.r p.2), outs⟩)) := by
    intro w hw
    have hfind : ∀ id b, find (hp0 gl) id = some b → ∃ l, (id, l) ∈ gl ∧ b = Blk.r l := treeOf_ok (Q := fun id b => ∃ l, (id, l) ∈ gl ∧ b = Blk.r l) (fun p hp => by
      obtain ⟨q, hq, rfl⟩ := List.mem_map.1 hp
      exact ⟨q.2, hq, rfl⟩) (fun k x hx => by rw [find_lf] at hx; cases hx)
    have he0 : ∀ id z, env0 vals id = some z → id < 1024 ∧ z = ⟨id, 0, 0, 0, none, vals id⟩ := fun id z hz => by
      unfold env0 at hz
      split at hz
      · rename_i hlt; cases hz; exact ⟨hlt, rfl⟩
      · cases hz
    refine h w (env0 vals) (fun id => id < 1024) w vs ⟨Later.refl _ _, fun id z hz => (he0 id z hz).1, fun id b hb => ?_, fun id b z hb hz => ?_, fun id b z hb hz h0 => ?_, fun id id' b b' z z' _ _ hz hz' hzz => ?_, env0_g vals⟩ (fun id (hid : 1024 ≤ id) (hlt : id < 1024) => absurd hlt (by omega)) hv
    · obtain ⟨l, hl, rfl⟩ := hfind id b hb
      have := (hgl _ hl).1
      simp [env0, this]
    · obtain ⟨l, hl, rfl⟩ := hfind id b hb
      obtain ⟨_, vs', c, t, fr, h1, h2, h3⟩ := hgl _ hl
      obtain ⟨_, rfl⟩ := he0 id z hz
      exact ⟨_, hw _ _ h1, vs', c, t, fr, rfl, h2 vals, h3, rfl⟩
    · obtain ⟨l, hl, rfl⟩ := hfind id b hb
      cases h0
    · obtain ⟨_, rfl⟩ := he0 id z hz
      obtain ⟨_, rfl⟩ := he0 id' z' hz'
      exact hzz
  refine ⟨hcall, fun w hw => (callsIn_wide.1 (key w hw.f).2).mono ?_⟩
  rintro en w' ⟨y', hp', nx', e', u, h1, rfl, h3, h4, h5⟩
  obtain ⟨o, ho1, ho2⟩ := List.mem_map.1 h1
  have := ho _ ho1
  have e0 : o.1 = y' := congrArg Prod.fst ho2
  rw [e0] at this
  subst this
  have hu := denM h3 hy
  rw [h4] at hu
  cases hu
  refine ⟨v, F, [], rfl, ⟨rfl, rfl, rfl⟩, ?_⟩
  refine ⟨fun b o hb => (h5.late.block b (hw.f.lt hb) (fun h => h)).trans (hw.f b o hb), (fun _ h => nomatch h), List.Pairwise.nil, (fun _ h => nomatch h), List.Pairwise.nil, ⟨h5.late.os, h5.late.tape, h5.late.output, h5.late.size, fun k hk _ => h5.late.block k hk (fun h => h)⟩, PH.le_refl _, fun b hb => .inl hb⟩
theorem FnsOk.call (hF : FnsOk P fns) {f : FuncId} (h : (fns f).isSome = true) : CallOk P f := by
  obtain ⟨F, hFf⟩ := Option.isSome_iff_exists.1 h
  obtain ⟨fn, f1, f2, f3, _⟩ := hF f F hFf
  exact ⟨fn, f1, by simp [f2], f3⟩
end
end Go.AM
