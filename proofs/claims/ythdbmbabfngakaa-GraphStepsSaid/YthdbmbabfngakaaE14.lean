/- The engine, part 14: blocks of the call's own that are lent to a call, and come back changed. -/
import Derived.Test.YthdbmbabfngakaaE13
namespace Go.Eng
open Go Go.RowKit
set_option linter.unusedSimpArgs false
set_option linter.unusedVariables false
/-- A block that is lent. -/
abbrev cell1 (b : Nat) (t : TypeId) (cs : List Value) : PH := PH.one b (.cells cs.toArray t (0, 0))
theorem PH.one_self (b : Nat) (o : Obj) : PH.one b o b = some o := by simp [PH.one]
/-- What is lent is the call's own from now on. -/
theorem Sat.fromR {B : Base} {S : St} {w : World} (hw : Sat B S w) {b : Nat} {t : TypeId} {cs : List Value} {Rf : List PH} (hR : S.R = cell1 b t cs :: Rf) (L : KL) (i nx : Nat) : Sat B ⟨L, ⟨i, b, t, cs⟩ :: S.M, S.F, Rf, nx⟩ w := by
  obtain ⟨r1, r2, r3⟩ := hw.r (cell1 b t cs) (by rw [hR]; exact List.mem_cons_self)
  have hrr := hw.rr
  rw [hR, List.pairwise_cons] at hrr
  have hs : cell1 b t cs b = some (.cells cs.toArray t (0, 0)) := PH.one_self _ _
  have hn : cell1 b t cs b ≠ none := by rw [hs]; exact fun h => nomatch h
  refine ⟨hw.f, fun o ho => ?_, List.pairwise_cons.2 ⟨fun o ho e => ?_, hw.mm⟩, fun r hr => hw.r r (by rw [hR]; exact List.mem_cons_of_mem _ hr), hrr.2, hw.late, hw.f0, hw.fnew⟩
  · rcases List.mem_cons.1 ho with rfl | ho
    · refine ⟨r1 b _ hs, ?_, fun r hr => ?_, r3 b hn⟩
      · rcases r2 b with h | h
        · exact h
        · exact absurd h hn
      · rcases hrr.1 r hr b with h | h
        · exact absurd h hn
        · exact h
    · obtain ⟨m1, m2, m3, m4⟩ := hw.m o ho
      exact ⟨m1, m2, fun r hr => m3 r (by rw [hR]; exact List.mem_cons_of_mem _ hr), m4⟩
  · have := (hw.m o ho).2.2.1 (cell1 b t cs) (by rw [hR]; exact List.mem_cons_self)
    have e : b = o.b := e
    rw [← e] at this
    exact hn this
theorem own_split : ∀ {M : List Own} {i : Nat} {m : Own}, ownF M i = some m → ∃ M', M.Perm (m :: M') ∧ ∀ cs, (updM M i cs).Perm ({ m with cs := cs } :: M')
  | [], _, _, h => by cases h
  | x :: M, i, m, h => by
    simp only [ownF] at h
    split at h
    · rename_i e
      cases h
      exact ⟨M, .refl _, fun cs => by simp only [updM, if_pos e]; exact .refl _⟩
    · rename_i e
      obtain ⟨M', h1, h2⟩ := own_split h
      refine ⟨x :: M', (h1.cons x).trans (.swap _ _ _), fun cs => ?_⟩
      simp only [updM, if_neg e]
      exact ((h2 cs).cons x).trans (.swap _ _ _)
section
variable {P : Program} {n : Nat} {C : Cx} {k : List KItem} {S : St} {κ : St → Prop} {f : FuncId} {args : List Value} {d : Option Tmp}
theorem Shift.toR {m : Own} {M : List Own} (hm : S.M.Perm (m :: M)) (L : KL) (nx : Nat) : Shift S ⟨L, M, S.F, cell1 m.b m.t m.cs :: S.R, nx⟩ :=
  fun _ _ hs => (hs.permM hm).toR rfl L nx
theorem Shift.fromR {b : Nat} {t : TypeId} {cs : List Value} {Rf : List PH} {M : List Own} (i : Nat) (hR : S.R.Perm (cell1 b t cs :: Rf)) (hM : (⟨i, b, t, cs⟩ :: S.M).Perm M) (L : KL) (nx : Nat) : Shift S ⟨L, M, S.F, Rf, nx⟩ :=
  fun _ _ hs => (((hs.permR hR).fromR rfl L i nx).permM hM)
theorem VC.fromR {b : Nat} {t : TypeId} {cs : List Value} {Rf : List PH} (i : Nat) (hR : S.R.Perm (cell1 b t cs :: Rf)) (h : VC P n C k ⟨S.L, ⟨i, b, t, cs⟩ :: S.M, S.F, Rf, S.nx⟩) : VC P n C k S :=
  fun a w ha hw => h a w ha (Shift.fromR i hR (.refl _) _ _ _ _ hw)
/-- A contract to which one block is lent. -/
def OFn (P : Program) (f : FuncId) (args : List Value) (F : PH) (b : Nat) (t : TypeId) (cs : List Value) (Q : Value → PH → List Value → Prop) : Prop :=
  Fn P f args F [cell1 b t cs] (fun v F' R' => ∃ cs', R' = [cell1 b t cs'] ∧ Q v F' cs')
theorem OFn.mono {F : PH} {b : Nat} {t : TypeId} {cs : List Value} {Q Q' : Value → PH → List Value → Prop} (h : OFn P f args F b t cs Q) (hq : ∀ v F' cs', F.le F' → Q v F' cs' → Q' v F' cs') : OFn P f args F b t cs Q' :=
  Fn.mono h fun v F' R' hF ⟨cs', e, q⟩ => ⟨cs', e, hq v F' cs' hF q⟩
/-- A call to which a block of the call's own is lent. -/
theorem CallV.own {i : Nat} {m : Own} {Q : Value → PH → List Value → Prop} (hM : ownF S.M i = some m) (hc : OFn P f args S.F m.b m.t m.cs Q)
    (next : ∀ v F' cs', S.F.le F' → Q v F' cs' → κ ⟨setk S.L d (.v v), updM S.M i cs', F', S.R, S.nx⟩) : CallV P false f args d κ S := by
  obtain ⟨M', hp, hu⟩ := own_split hM
  refine ⟨_, ⟨[], M', S.F, cell1 m.b m.t m.cs :: S.R, 0⟩, [cell1 m.b m.t m.cs], S.R, .toR hp _ _, hc, .refl _, ?_⟩
  rintro v F' R' hF ⟨cs', rfl, q⟩
  exact ⟨_, rfl, Shift.fromR m.i (.refl _) (hu cs').symm _ _, fun h => (nomatch h), next v F' cs' hF q⟩
theorem RetR.own {i : Nat} {m : Own} (hM : ownF S.M i = some m) : RetR S (cell1 m.b m.t m.cs :: S.R) := by
  obtain ⟨M', hp, _⟩ := own_split hM
  exact fun _ _ hs => ((Shift.toR hp [] 0) _ _ hs).weaken ⟨(fun _ _ h => nomatch h), List.nil_sublist _, rfl, List.Sublist.refl _⟩
theorem RetR.two {m1 m2 : Own} {L : KL} {M : List Own} {F : PH} {R : List PH} {nx : Nat} : RetR ⟨L, m1 :: m2 :: M, F, R, nx⟩ (cell1 m1.b m1.t m1.cs :: cell1 m2.b m2.t m2.cs :: R) := fun _ _ hs => by
  have h1 := Shift.toR (S := ⟨L, m1 :: m2 :: M, F, R, nx⟩) (List.Perm.swap _ _ _) L nx _ _ hs
  have h2 := Shift.toR (S := ⟨L, m1 :: M, F, _, nx⟩) (List.Perm.refl _) L nx _ _ h1
  exact h2.weaken ⟨(fun _ _ h => nomatch h), List.nil_sublist _, rfl, List.Sublist.refl _⟩
/-- The end of a walk to which one block was lent. -/
theorem RetOk.own {ts : List ResultVar} {vs : List Value} {m : Own} {L : KL} {M : List Own} {F : PH} {nx : Nat} {Q : Value → PH → List Value → Prop} (i : Nat) (hv : rvals P ⟨L, M, F, [], nx⟩ ts = some vs) (hM : ownF M i = some m) (q : Q (rval vs) F m.cs) :
    RetOk P ts (fun v F' R' => ∃ cs', R' = [cell1 m.b m.t cs'] ∧ Q v F' cs') ⟨L, M, F, [], nx⟩ :=
  ⟨vs, _, hv, RetR.own (S := ⟨L, M, F, [], nx⟩) hM, m.cs, rfl, q⟩
/-- The walk of a function whose first argument is the address of a block that is lent to it. -/
theorem OFn.intro {fn : Func} {c : Code} {F : PH} {b : Nat} {t : TypeId} {cs : List Value} {Q : Value → PH → List Value → Prop} {ts : List ResultVar} (hf : P.funcs[f]? = some fn) (hb : fn.body = some c) (hn : (fn.name == "runtime.NumGoroutine") = false)
    (hr : fn.results = ts.toArray) (hnt : fn.ntmps = n) (hl : args.length + 1 ≤ n)
    (h : ∀ B : Base, B.F = F → VC P n (retC P n B ts (fun v F' R' => ∃ cs', R' = [cell1 b t cs'] ∧ Q v F' cs')) [.code c] ⟨(0, .o 0 b 0) :: initL 1 args, [⟨0, b, t, cs⟩], F, [], 1⟩) : OFn P f (.pointer (some ⟨b, 0, none⟩) :: args) F b t cs Q := by
  refine Fn.intro hf hb hn hr hnt (by simpa using hl) fun B hB => ?_
  refine VC.fromR 0 (.refl _) (VC.reL ((0, .o 0 b 0) :: initL 1 args) ?_ ?_)
  · have key : ∀ (l : List Value) (i : Nat) (L : KL), (∀ d x, look (initL i l) d = some x → look L d = some x) → subv L (initL i l) := by
      intro l
      induction l with
      | nil => intro i L _; trivial
      | cons v l ih =>
        intro i L h
        refine ⟨?_, ih (i + 1) L fun d x hx => h d x ?_⟩
        · rw [h i (.v v) (by simp [initL, look])]
        · simp only [initL, look]
          split
          · rename_i e
            subst e
            obtain ⟨j, h1, _⟩ := initL_look l (i + 1) i x hx
            omega
          · exact hx
    refine ⟨by simp [initL, look], key args 1 _ fun d x hx => ?_⟩
    have : look (initL 0 (.pointer (some ⟨b, 0, none⟩) :: args)) d = some x := by
      simp only [initL, look]
      split
      · rename_i e
        subst e
        obtain ⟨j, h1, _⟩ := initL_look args 1 0 x hx
        omega
      · exact hx
    exact this
  · exact fun a w ha hw => h B hB a w ha (hw.setL _ _)
/-- Loops in which blocks of the call's own turn. -/
theorem VC.loopM {ι : Type} {c : Code} (L : ι → KL) (M : ι → List Own) (F : ι → PH) (I : ι → Prop) (μ : ι → Nat) (i0 : ι) (h0 : I i0) (hs : subk S.L (L i0)) (hM : (M i0).Sublist S.M) (hF : F i0 = S.F)
    (round : ∀ i, I i → ∀ G : St → Prop, (∀ j S', I j → μ j < μ i → subk S'.L (L j) → (M j).Sublist S'.M → S'.F = F j → S'.R = S.R → G S') → VC P n C (.code c :: .done G :: k) ⟨L i, M i, F i, S.R, S.nx⟩) : VC P n C (.code (.loop c) :: k) S :=
  VC.loop (fun i => ⟨L i, M i, F i, S.R, S.nx⟩) I μ i0 h0 ⟨subk_le hs, hM, hF, List.Sublist.refl _⟩ fun i hi G hG =>
    round i hi G fun j S' h1 h2 h3 h4 h5 h6 => hG j S' h1 h2 ⟨subk_le h3, h4, h5.symm, by rw [h6]; exact List.Sublist.refl _⟩
/-- A cut behind a piece of code in which blocks of the call's own turn. -/
theorem VC.cutM {ι : Type} {c : Code} (L : ι → KL) (M : ι → List Own) (F : ι → PH) (I : ι → Prop) (hx : ∀ G : St → Prop, (∀ j S', I j → subk S'.L (L j) → (M j).Sublist S'.M → S'.F = F j → S'.R = S.R → G S') → VC P n C (.code c :: .done G :: k) S)
    (hk : ∀ i, I i → VC P n C k ⟨L i, M i, F i, S.R, S.nx⟩) : VC P n C (.code c :: k) S :=
  VC.cut (fun i => ⟨L i, M i, F i, S.R, S.nx⟩) I (fun G hG => hx G fun j S' h1 h3 h4 h5 h6 => hG j S' h1 ⟨subk_le h3, h4, h5.symm, by rw [h6]; exact List.Sublist.refl _⟩) hk
end
end Go.Eng
