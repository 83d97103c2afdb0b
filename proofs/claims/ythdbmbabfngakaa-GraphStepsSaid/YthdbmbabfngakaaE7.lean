/- The engine, part 7: calls, returns, contracts, and the walk that goes by itself. -/
import Derived.Test.YthdbmbabfngakaaE6
namespace Go.Eng
open Go Go.RowKit

instance (n : Nat) : OfNat ResultVar n := ⟨.tmp n⟩
/-- A result: a slot, or what lies at a slot's address. -/
def rval1 (P : Program) (S : St) : ResultVar → Option AV
  | .tmp t => look S.L t
  | .cell a t => match look S.L a with
    | some x => ldv P S t x
    | none => none
def rvals (P : Program) (S : St) : List ResultVar → Option (List Value)
  | [] => some []
  | t :: ts => match rval1 P S t, rvals P S ts with
    | some x, some xs => some (x.val :: xs)
    | _, _ => none
def rval : List Value → Value
  | [v] => v
  | l => .tuple l.toArray
/-- What fits one state fits the other. -/
def Shift (S S1 : St) : Prop := ∀ B w, Sat B S w → Sat B S1 w
/-- What is handed back at the end. -/
def RetR (S : St) (R' : List PH) : Prop := Shift S ⟨[], [], S.F, R', 0⟩
theorem RetR.sub {S : St} {R' : List PH} (h : R'.Sublist S.R) : RetR S R' := fun _ _ hs => hs.weaken ⟨(fun _ _ h => nomatch h), List.nil_sublist _, rfl, h⟩
theorem RetR.refl (S : St) : RetR S S.R := .sub (List.Sublist.refl _)
/-- Where a walk ends: its results are known, and what is asked of them holds. -/
def RetOk (P : Program) (ts : List ResultVar) (Q : Value → PH → List PH → Prop) (S : St) : Prop := ∃ vs R', rvals P S ts = some vs ∧ RetR S R' ∧ Q (rval vs) S.F R'
def retC (P : Program) (n : Nat) (B : Base) (ts : List ResultVar) (Q : Value → PH → List PH → Prop) : Cx := ⟨B, fun a w => ∃ S, Kn n S.L a ∧ Sat B S w ∧ RetOk P ts Q S⟩
def initL : Nat → List Value → KL
  | _, [] => []
  | i, v :: l => (i, .v v) :: initL (i + 1) l
theorem initL_look : ∀ (l : List Value) (i d : Nat) (x : AV), look (initL i l) d = some x → ∃ j, d = i + j ∧ l[j]? = some x.val
  | [], _, _, _, h => by cases h
  | v :: l, i, d, x, h => by
    simp only [initL, look] at h
    split at h
    · subst_vars; cases h; exact ⟨0, rfl, rfl⟩
    · obtain ⟨j, h1, h2⟩ := initL_look l (i + 1) d x h
      exact ⟨j + 1, by omega, by simpa using h2⟩
section
variable {P : Program} {n : Nat} {C : Cx} {k : List KItem} {S : St} {all : Array Oper} {o : Oper} {l : List Oper} {B : Base} {ts : List ResultVar} {Q : Value → PH → List PH → Prop}
theorem VC.retok (h : RetOk P ts Q S) : VC P n (retC P n B ts Q) (.code .ret :: k) S := VC.ret fun _ _ ha hw => ⟨S, ha, hw, h⟩
theorem VC.nilok (h : RetOk P ts Q S) : VC P n (retC P n B ts Q) [] S := VC.nil fun _ _ ha hw => ⟨S, ha, hw, h⟩
def resf (tmps : Array Value) : ResultVar → Sem Value
  | .tmp t => pure (tmps.getD t undef)
  | .cell a t => do loadVar t (← asAddr (tmps.getD a undef))
theorem rval1_run {a : Act} {w : World} (ha : Kn n S.L a) (hw : Sat B S w) {r : ResultVar} {x : AV} (h : rval1 P S r = some x) : (resf a.tmps r).run P w = .ok x.val w := by
  cases r with
  | tmp t =>
    have e := (ha.2.2 _ _ h).2
    simp only [resf, e]
    rfl
  | cell t ty' =>
    simp only [rval1] at h
    split at h
    · rename_i y hy
      have e := (ha.2.2 _ _ hy).2
      have hl := ldv_run hw h
      have hp : ∃ p, y.val = .pointer (some p) := by
        unfold ldv at h
        split at h
        · cases h
        · split at h
          · exact ⟨_, rfl⟩
          · exact ⟨_, rfl⟩
          · cases h
      obtain ⟨p, hp⟩ := hp
      simp only [resf, e]
      rw [hp] at hl ⊢
      simp only [Instr.loadAt, Instr.sureAddr, Sem.run_bind, Sem.run_pure, Result.andThen_ok] at hl
      simp only [asAddr, Sem.run_bind, Sem.run_pure, Result.andThen_ok]
      exact hl
    · cases h
theorem rvals_results {a : Act} {w : World} (ha : Kn n S.L a) (hw : Sat B S w) : ∀ {ts : List ResultVar} {vs : List Value}, rvals P S ts = some vs → (ts.mapM (m := Sem) (resf a.tmps)).run P w = .ok vs w
  | [], vs, h => by simp only [rvals, Option.some.injEq] at h; subst h; rfl
  | t :: ts, vs, h => by
    simp only [rvals] at h
    split at h
    · rename_i h1 h2
      cases h
      rw [List.mapM_cons]
      simp only [Sem.run_bind, rval1_run ha hw h1, Result.andThen_ok, rvals_results ha hw h2, Sem.run_pure]
    · cases h
theorem results_run {a : Act} {w : World} {fn : Func} (ha : Kn n S.L a) (hw : Sat B S w) {vs : List Value} (hr : fn.results = ts.toArray) (h : rvals P S ts = some vs) : (results fn a.tmps).run P w = .ok (rval vs) w := by
  have e1 : results fn a.tmps = (do
      let vs ← fn.results.mapM (m := Sem) (resf a.tmps)
      pure (if h : vs.size = 1 then vs[0] else .tuple vs)) := by
    unfold results
    congr 2
  have e2 : (fn.results.mapM (m := Sem) (resf a.tmps)).run P w = .ok vs.toArray w := by
    rw [Array.mapM_eq_mapM_toList, hr]
    have h3 := rvals_results ha hw h
    show (List.toArray <$> (ts.mapM (m := Sem) (resf a.tmps))).run P w = _
    rw [map_eq_pure_bind]
    simp only [Sem.run_bind, h3, Result.andThen_ok, Sem.run_pure]
  rw [e1]
  simp only [Sem.run_bind, e2, Result.andThen_ok, Sem.run_pure]
  match vs with
  | [] => rfl
  | [v] => rfl
  | v :: v' :: l => rfl
theorem Fn.intro {f : FuncId} {fn : Func} {c : Code} {args : List Value} {F : PH} {R : List PH} (hf : P.funcs[f]? = some fn) (hb : fn.body = some c) (hn : (fn.name == "runtime.NumGoroutine") = false)
    (hr : fn.results = ts.toArray) (hnt : fn.ntmps = n) (hl : args.length ≤ n)
    (h : ∀ B : Base, B.F = F → VC P n (retC P n B ts Q) [.code c] ⟨initL 0 args, [], F, R, 0⟩) : Fn P f args F R Q := by
  subst hnt
  refine ⟨⟨fn, hf, by simp [hb], hn⟩, fun w hw => ?_⟩
  refine calls_of_wp hf hb ?_
  have hk : Kn fn.ntmps (initL 0 args) { tmps := args.toArray ++ Array.replicate (fn.ntmps - args.toArray.size) undef, defers := [] } := by
    refine ⟨rfl, by simp; omega, fun d x hd => ?_⟩
    obtain ⟨j, h1, h2⟩ := initL_look args 0 d x hd
    have hj : j < args.length := by
      rcases Nat.lt_or_ge j args.length with h' | h'
      · exact h'
      · rw [List.getElem?_eq_none h'] at h2; cases h2
    have : d = j := by omega
    subst this
    refine ⟨by omega, ?_⟩
    rw [List.getElem?_eq_getElem hj] at h2
    simp only [Option.some.injEq] at h2
    simp [Array.getD, hj, h2]
    omega
  have hs : Sat (base0 w F R) ⟨initL 0 args, [], F, R, 0⟩ w :=
    ⟨hw.f, (fun _ ho => nomatch ho), List.Pairwise.nil, fun r hr => ⟨(hw.r r hr).1, (hw.r r hr).2, fun b hb => Or.inl ⟨r, hr, hb⟩⟩, hw.rr, Later.refl _ _, PH.le_refl _, fun b hb => Or.inl hb⟩
  refine wp_mono (h (base0 w F R) rfl _ w hk hs) ?_
  have fin : ∀ a w', (∃ S, Kn fn.ntmps S.L a ∧ Sat (base0 w F R) S w' ∧ RetOk P ts Q S) → a.defers = [] ∧ ∃ v, (results fn a.tmps).run P w' = .ok v w' ∧ ∃ v_1 F' R', Ending.returned v = .returned v_1 ∧ Q v_1 F' R' ∧ Sat (base0 w F R) ⟨[], [], F', R', 0⟩ w' := by
    rintro a w' ⟨S, k1, k2, vs, R', h1, h2, h3⟩
    refine ⟨k1.1, rval vs, ?_, rval vs, S.F, R', rfl, h3, ?_⟩
    · exact results_run k1 k2 hr h1
    · exact h2 _ _ k2
  intro e a w' q
  cases e with
  | normal => exact fin a w' q
  | ret => exact fin a w' q
  | exit id => exact q.elim
  | goto l => exact q.elim
  | panic ch => exact q.elim
  | outgrown => exact q.elim
end
end Go.Eng
