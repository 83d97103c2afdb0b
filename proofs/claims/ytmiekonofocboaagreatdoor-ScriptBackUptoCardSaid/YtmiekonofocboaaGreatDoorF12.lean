/- The evaluator, part 12: every operation. -/
import Derived.Test.YtmiekonofocboaaGreatDoorF11
import Derived.RangeFuncIn
import Derived.RangeFuncRecord
set_option linter.unusedVariables false
set_option linter.unusedSectionVars false
set_option linter.unusedSimpArgs false
namespace Go.AM
open Go Go.RowKit Go.Eng

abbrev CallF := FuncId → X → Hp → Nat → Option Outs
/-- What comes of a call: one of these, and nothing else turned. -/
def CallPost (B : World) (e : Env) (U : Nat → Prop) (nx : Nat) (outs : Outs) (en : Ending) (w' : World) : Prop :=
  ∃ y hp' nx' e' v, (y, hp', nx') ∈ outs ∧ en = .returned v ∧ e.le e' ∧ den e' y = some v ∧ Fit B e' hp' (fun id => U id ∨ (nx ≤ id ∧ id < nx')) w'
def CfOk (P : Program) (B : World) (e0 : Env) (cf : CallF) : Prop :=
  ∀ f args hp nx outs e U w vs, e0.le e → cf f args hp nx = some outs → Fit B e hp U w → (∀ id, nx ≤ id → ¬ U id) → denL e args = some vs → CallOk P f ∧ CallsIn Fence.wide 0 P f vs.toArray w (CallPost B e U nx outs)
def CrOk (P : Program) (B : World) (e0 : Env) (cr : CallF) : Prop :=
  ∀ id args hp nx outs e U w vs z, e0.le e → cr id args hp nx = some outs → Fit B e hp U w → (∀ id, nx ≤ id → ¬ U id) → denL e args = some vs → e id = some z →
    ∃ fn tmps assign body, (Instr.yield z.b vs.toArray).run P w = .ok (.round z.b fn tmps assign body) w ∧ RoundIn Fence.wide 0 P z.b fn tmps assign body w (CallPost B e U nx outs)
theorem CfOk.mono {P : Program} {B : World} {e e' : Env} {cf : CallF} (h : CfOk P B e cf) (hl : e.le e') : CfOk P B e' cf := fun _ _ _ _ _ _ _ _ _ hle => h _ _ _ _ _ _ _ _ _ (Env.le_trans hl hle)
theorem CrOk.mono {P : Program} {B : World} {e e' : Env} {cr : CallF} (h : CrOk P B e cr) (hl : e.le e') : CrOk P B e' cr := fun _ _ _ _ _ _ _ _ _ _ hle => h _ _ _ _ _ _ _ _ _ _ (Env.le_trans hl hle)
section
variable {P : Program} {ro : Option Nat} {B : World} {e : Env} {U : Nat → Prop} {i nx : Nat} {o : Oper} {a : Act} {w : World} {hp : Hp} {fr : Tr X} {dm : List DM} {n : Nat} {τ : Ty}
def one (hp : Hp) (nx : Nat) : Option X → Option Outs
  | some y => some [(y, hp, nx)]
  | none => none
def aeff (P : Program) (τ : Ty) (cf cr : CallF) (fr : Tr X) (hp : Hp) (i nx : Nat) : Op → Option Outs
  | .alloc t => aAlloc τ hp i nx t
  | .box t x => aBox fr hp i nx t x
  | .store t p v => aStore τ fr hp nx t p v
  | .build t parts => one hp nx (bldX τ fr t parts)
  | .buildSlice t len parts => aBuildSlice τ fr hp i nx t len parts
  | .makeSlice t l c => aMakeSlice τ fr hp i nx t l c
  | .makeMap _ none => aMakeMap hp i nx
  | .mapUpdate t m k v => aUpdate τ fr hp nx t m k v
  | .range t x => aRange τ fr hp i nx t x
  | .next x false => aNext fr hp nx x
  | .entry x => aEntry fr hp nx x
  | .call ⟨.builtin .append, args, tys⟩ => (match args.toList, tys.toList with
    | [s, x], [t, u] => aAppend τ fr hp i nx t u s x
    | _, _ => none)
  | .call ⟨.builtin .copy, args, tys⟩ => (match args.toList, tys.toList with
    | [d, s], [t, u] => aCopy τ fr hp nx t u d s
    | _, _ => none)
  | .call ⟨.builtin .clear, args, tys⟩ => (match args.toList, tys.toList with
    | [x], [t] => aClear τ fr hp nx t x
    | _, _ => none)
  | .call ⟨.builtin .delete, args, tys⟩ => (match args.toList, tys.toList with
    | [m, k], t :: _ => aDelete τ fr hp nx t m k
    | _, _ => none)
  | .call ⟨.builtin .min, args, tys⟩ => (match args.toList with
    | [x, y] => aMin fr hp nx true x y
    | _ => none)
  | .call ⟨.builtin .max, args, tys⟩ => (match args.toList with
    | [x, y] => aMin fr hp nx false x y
    | _ => none)
  | .call ⟨.value fo, args, tys⟩ => (match ev fr fo, evs fr args.toList with
    | some (.f (.func f) first cap), some as => cf f (xcat first (xcat as cap)) hp nx
    | some (.fy id), some as => cr id as hp nx
    | _, _ => none)
  | .convert s d x => (match aBytes τ fr hp i nx s d x with
    | some outs => some outs
    | none => one hp nx (aqq P τ fr hp (.convert s d x)))
  | op => one hp nx (aqq P τ fr hp op)
theorem EffOk.call {cf : CallF} (hcf : CfOk P B e cf) (hk : KnX e n fr dm a) (hf : Fit B e hp U w) (hnx : ∀ id, nx ≤ id → ¬ U id) {fo : Operand} {args : Array Operand} {tys : Array TypeId} (ho : o.op = .call ⟨.value fo, args, tys⟩)
    {f : FuncId} {first cap as : X} (hfo : ev fr fo = some (.f (.func f) first cap)) (has : evs fr args.toList = some as) {outs : Outs} (h : cf f (xcat first (xcat as cap)) hp nx = some outs) : EffOk P ro B e U i nx o a w outs := by
  obtain ⟨vf, f1, f2⟩ := ev_run hk hfo
  obtain ⟨vs, a1, a2⟩ := evs_run hk has
  simp only [den] at f1
  split at f1
  · rename_i lf lc hlf hlc
    cases f1
    have hden := xcat_den hlf (xcat_den a1 hlc)
    obtain ⟨⟨fn, hfn, hbody, hname⟩, hc⟩ := hcf _ _ _ _ _ _ _ _ _ (Env.le_refl e) h hf hnx hden
    intro K Q hK
    refine ⟨fun _ _ => trivial, ?_⟩
    rw [Oper.semAt_eq _ _ _ (by rw [ho]; simp)]
    obtain ⟨dst, op, type, pos, after, guard⟩ := o
    subst ho
    have hb : fn.body.isNone = false := by cases hh : fn.body <;> simp_all
    have e2 : (execOp a.eval ⟨dst, .call ⟨.value fo, args, tys⟩, type, pos, after, guard⟩).run P w = .ok (.enter f (lf ++ (vs ++ lc)).toArray) w := by
      have e1 : execOp a.eval ⟨dst, .call ⟨.value fo, args, tys⟩, type, pos, after, guard⟩ = (do let d ← resolve a.eval ⟨.value fo, args, tys⟩ type; invoke d.target d.args) := rfl
      rw [e1]
      have hm : (args.map a.eval).toList = vs := by rw [Array.toList_map]; exact a2
      have ht : lf.toArray ++ args.map a.eval ++ lc.toArray = (lf ++ (vs ++ lc)).toArray := by
        apply Array.ext'
        rw [Array.toList_append, Array.toList_append, hm]
        simp [List.append_assoc]
      simp only [resolve, f2, Deferred.ofValue, Sem.run_bind, Sem.run_pure, Result.andThen_ok, invoke, callFunc]
      simp only [program, Sem.run, Result.andThen_ok, hfn, hname, hb, Bool.false_eq_true, if_false, ht]
      rfl
    rw [e2, Oper.uponIn_enter]
    refine ⟨(fun h => by simp [WF, Fence.wide] at h), ?_⟩
    have hc' : CallsIn (WF ro) 0 P f (lf ++ (vs ++ lc)).toArray w (CallPost B e U nx outs) := hc
    refine hc'.mono ?_
    rintro en w' ⟨y, hp', nx', e', v, h1, rfl, h3, h4, h5⟩
    refine hK y hp' nx' e' v w' h1 h3 h4 (h5.used fun id h => ?_)
    rcases h with h | h
    · exact .inl h
    · exact .inr (.inr h)
  · cases f1
theorem EffOk.round {cr : CallF} (hcr : CrOk P B e cr) (hk : KnX e n fr dm a) (hf : Fit B e hp U w) (hnx : ∀ id, nx ≤ id → ¬ U id) {fo : Operand} {args : Array Operand} {tys : Array TypeId} (ho : o.op = .call ⟨.value fo, args, tys⟩)
    {id : Nat} {as : X} (hfo : ev fr fo = some (.fy id)) (has : evs fr args.toList = some as) {outs : Outs} (h : cr id as hp nx = some outs) : EffOk P ro B e U i nx o a w outs := by
  obtain ⟨vf, f1, f2⟩ := ev_run hk hfo
  obtain ⟨vs, a1, a2⟩ := evs_run hk has
  simp only [den] at f1
  split at f1
  · rename_i z hz
    cases f1
    obtain ⟨fn, tmps, assign, body, hy, hr⟩ := hcr _ _ _ _ _ _ _ _ _ _ (Env.le_refl e) h hf hnx a1 hz
    intro K Q hK
    refine ⟨fun _ _ => trivial, ?_⟩
    rw [Oper.semAt_eq _ _ _ (by rw [ho]; simp)]
    obtain ⟨dst, op, type, pos, after, guard⟩ := o
    subst ho
    have e2 : (execOp a.eval ⟨dst, .call ⟨.value fo, args, tys⟩, type, pos, after, guard⟩).run P w = .ok (.round z.b fn tmps assign body) w := by
      have e1 : execOp a.eval ⟨dst, .call ⟨.value fo, args, tys⟩, type, pos, after, guard⟩ = (do let d ← resolve a.eval ⟨.value fo, args, tys⟩ type; invoke d.target d.args) := rfl
      rw [e1]
      have hm : (args.map a.eval) = vs.toArray := by apply Array.ext'; rw [Array.toList_map]; exact a2
      simp only [resolve, f2, Deferred.ofValue, Sem.run_bind, Sem.run_pure, Result.andThen_ok, invoke]
      have ht : (#[] : Array Value) ++ args.map a.eval = vs.toArray := by rw [hm]; simp
      rw [ht]
      exact hy
    rw [e2, Oper.uponIn_round]
    refine ⟨(fun h => by simp [WF, Fence.wide] at h), ?_⟩
    have hr' : RoundIn (WF ro) 0 P z.b fn tmps assign body w (CallPost B e U nx outs) := hr
    refine hr'.mono ?_
    rintro en w' ⟨y, hp', nx', e', v, h1, rfl, h3, h4, h5⟩
    refine hK y hp' nx' e' v w' h1 h3 h4 (h5.used fun id h => ?_)
    rcases h with h | h
    · exact .inl h
    · exact .inr (.inr h)
  · cases f1
theorem one_ok (hτ : TyOk P τ) (hk : KnX e n fr dm a) (hf : Fit B e hp U w) (hd : ∀ c, o.op ≠ .defer c) {outs : Outs} (h : one hp nx (aqq P τ fr hp o.op) = some outs) : EffOk P ro B e U i nx o a w outs := by
  unfold one at h
  split at h
  · rename_i y hy
    cases h
    obtain ⟨v, h1, h2⟩ := aqq_run hτ hk hf hy
    exact .value hd ⟨y, hp, nx, v, w, e, List.mem_cons_self, h2, Env.le_refl e, h1, hf.used fun id h => .inl h⟩
  · cases h
theorem aqq_defer {c : Call} {y : X} (h : aqq P τ fr hp (.defer c) = some y) : False := by
  simp [aqq, aq] at h
theorem aeff_ok (hτ : TyOk P τ) {cf cr : CallF} (hcf : CfOk P B e cf) (hcr : CrOk P B e cr) (hk : KnX e n fr dm a) (hf : Fit B e hp U w) (hi : ¬ U i) (hnx : ∀ id, nx ≤ id → ¬ U id) {outs : Outs} (h : aeff P τ cf cr fr hp i nx o.op = some outs) : EffOk P ro B e U i nx o a w outs := by
  unfold aeff at h
  split at h
  · rename_i ho; exact aAlloc_ok hτ hf hi ho h
  · rename_i ho; exact aBox_ok hk hf hi ho h
  · rename_i ho; exact aStore_ok hτ hk hf ho h
  · rename_i ho
    unfold one at h
    split at h
    · rename_i y hy
      cases h
      obtain ⟨v, h1, h2⟩ := bldX_run (w := w) hτ hk hy
      refine .value (by rw [ho]; simp) ⟨y, hp, nx, v, w, e, List.mem_cons_self, ?_, Env.le_refl e, h1, hf.used fun id h => .inl h⟩
      obtain ⟨dst, op, type, pos, after, guard⟩ := o
      subst ho
      exact run_value rfl h2
    · cases h
  · rename_i ho; exact aBuildSlice_ok hτ hk hf hi ho h
  · rename_i ho; exact aMakeSlice_ok hτ hk hf hi ho h
  · rename_i ho; exact aMakeMap_ok hf hi ho h
  · rename_i ho; exact aUpdate_ok hτ hk hf ho h
  · rename_i ho; exact aRange_ok hτ hk hf hi ho h
  · rename_i ho; exact aNext_ok hk hf ho h
  · rename_i ho; exact aEntry_ok hk hf ho h
  · rename_i ho
    split at h
    · rename_i h1 h2; exact aAppend_ok hτ hk hf hi ho h1 h2 h
    · cases h
  · rename_i ho
    split at h
    · rename_i h1 h2; exact aCopy_ok hτ hk hf ho h1 h2 h
    · cases h
  · rename_i ho
    split at h
    · rename_i h1 h2; exact aClear_ok hτ hk hf ho h1 h2 h
    · cases h
  · rename_i ho
    split at h
    · rename_i h1 h2; exact aDelete_ok hτ hk hf ho h1 h2 h
    · cases h
  · rename_i ho
    split at h
    · rename_i h1; exact aMin_ok (isMin := true) hk hf ho h1 h
    · cases h
  · rename_i ho
    split at h
    · rename_i h1; exact aMin_ok (isMin := false) hk hf ho h1 h
    · cases h
  · rename_i ho
    split at h
    · rename_i h1 h2; exact EffOk.call hcf hk hf hnx ho h1 h2 h
    · rename_i h1 h2; exact EffOk.round hcr hk hf hnx ho h1 h2 h
    · cases h
  · rename_i ho
    split at h
    · rename_i h1; cases h; exact aBytes_ok hτ hk hf hi ho h1
    · rw [← ho] at h
      exact one_ok hτ hk hf (by rw [ho]; simp) h
  · refine one_ok hτ hk hf (fun c hc => ?_) h
    rw [hc] at h
    unfold one at h
    split at h
    · rename_i hy; exact aqq_defer hy
    · cases h
end
end Go.AM
