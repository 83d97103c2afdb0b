/- What is laid, summed up: sizes of all that waits. -/
import Derived.Test.YtoepmdbicdoieaaDoorU2
namespace Go.Proofs.YtoepmdbicdoieaaDoor.U
open Go Go.Eng Go.Proofs Go.Proofs.YtoepmdbicdoieaaDoor.T Go.Proofs.YtoepmdbicdoieaaDoor.V Go.Proofs.YtoepmdbicdoieaaDoor.K
set_option linter.unusedSimpArgs false
set_option linter.unusedVariables false
/-- On from one state to another: what is laid, and twice what waits, is no more than that. -/
def Sum (s t : Sc) (a b : Nat) : Prop := ∃ fs, t.forms = s.forms ++ fs ∧ t.ins.length + 2 * waitsSize fs ≤ s.ins.length + a ∧ t.infos.length + waitsSize fs ≤ s.infos.length + b
theorem Sum.refl (s : Sc) : Sum s s 0 0 := ⟨[], by simp, by simp [waitsSize], by simp [waitsSize]⟩
theorem Sum.mono {s t : Sc} {a b a' b' : Nat} (h : Sum s t a b) (h1 : a ≤ a') (h2 : b ≤ b') : Sum s t a' b' := let ⟨fs, k1, k2, k3⟩ := h; ⟨fs, k1, by omega, by omega⟩
theorem Sum.trans {s t u : Sc} {a b a' b' : Nat} (h : Sum s t a b) (k : Sum t u a' b') : Sum s u (a + a') (b + b') := by
  obtain ⟨fs, h1, h2, h3⟩ := h
  obtain ⟨gs, k1, k2, k3⟩ := k
  exact ⟨fs ++ gs, by rw [k1, h1, List.append_assoc], by rw [waitsSize_append]; omega, by rw [waitsSize_append]; omega⟩
theorem sum_put (s : Sc) (i : Ins) : Sum s (putS s i) 1 0 := ⟨[], by simp [putS], by simp [putS, waitsSize], by simp [putS, waitsSize]⟩
theorem sum_info (s : Sc) (f : Frm) (d : List ByteArray) : Sum s (infoS s f d) (2 * f.2.size) (f.2.size + 1) := ⟨[f], by simp [infoS], by simp [infoS, waitsSize], by simp [infoS, waitsSize]; omega⟩
theorem sum_setA (s : Sc) (i : Nat) (a : Int) : Sum s (setA s i a) 0 0 := ⟨[], by simp [setA], by simp [setA, waitsSize], by simp [setA, waitsSize]⟩
theorem sum_setArms (s : Sc) (i : Nat) (a : List Arm) : Sum s (setArms s i a) 0 0 := ⟨[], by simp [setArms], by simp [setArms, waitsSize], by simp [setArms, waitsSize]⟩
theorem sum_ints (s : Sc) (ats : List (ByteArray × Int)) (b : Int) : Sum s (intsS s ats b) 1 0 := by
  unfold intsS
  split
  · exact (Sum.refl s).mono (by omega) (by omega)
  · exact sum_put _ _
theorem sum_stepM (C : Env) (inn : List ByteArray) (t : Grp) (b : Bind) : Sum t.s (stepM C inn t b).s (2 * b.body.size) (b.body.size + 1) := by
  unfold stepM
  split
  · exact (Sum.refl _).mono (by omega) (by omega)
  · split
    · exact (Sum.refl _).mono (by omega) (by omega)
    · split
      · exact (Sum.refl _).mono (by omega) (by omega)
      · exact sum_info _ _ _
theorem sum_foldM (C : Env) (inn : List ByteArray) : ∀ (bs : List Bind) (t : Grp), Sum t.s (bs.foldl (stepM C inn) t).s (2 * sizeBs bs) (sizeBs bs)
  | [], t => (Sum.refl _).mono (by omega) (by omega)
  | b :: bs, t => by
    have h1 := sum_stepM C inn t b
    have h2 := sum_foldM C inn bs (stepM C inn t b)
    have h4 := V.bsize_eq b
    have h5 : sizeBs (b :: bs) = b.size + sizeBs bs := by simp [sizeBs]
    exact (h1.trans h2).mono (by omega) (by omega)
mutual
theorem layE_sum (C : Env) : ∀ (e : Exp) (l : List ByteArray) (s : Sc), Sum s (layE C e l s) (2 * e.size) e.size
  | .mk k a nm n ats bs es ls, l, s => by
    have hz : (Exp.mk k a nm n ats bs es ls).size = nm.size + 1 + sizeA ats + sizeBs bs + sizeEs es + sizeLs ls := rfl
    rw [hz]
    simp only [layE]
    split
    · exact (Sum.refl s).mono (by omega) (by omega)
    split
    · exact ((sum_put _ _).trans (sum_put _ _)).mono (by omega) (by omega)
    split
    · exact ((sum_put _ _).trans (sum_put _ _)).mono (by omega) (by omega)
    split
    · exact ((sum_ints _ _ _).trans (sum_put _ _)).mono (by omega) (by omega)
    split
    · exact ((sum_ints _ _ _).trans (sum_put _ _)).mono (by omega) (by omega)
    split
    · exact (((sum_foldM C (letIn bs l) bs ⟨preM bs, l.length, s⟩).trans (sum_put _ _)).trans (layKid_sum C es (letIn bs l) _)).mono (by omega) (by omega)
    split
    · refine ((((sum_put s _).trans (layKid_sum C es _ _)).trans ((sum_setA _ _ _).trans (sum_put _ _))).trans ((layAlts_sum C (keepL l ls) ls ⟨[], armsS (layKid C es (here l (withinKid es)) (caseS C es ls l s)) s.ins.length (keepL l ls)⟩).trans (sum_setArms _ _ _))).mono (by omega) (by omega)
    · exact (Sum.refl s).mono (by omega) (by omega)
theorem layKid_sum (C : Env) : ∀ (es : List Exp) (l : List ByteArray) (s : Sc), Sum s (layKid C es l s) (2 * sizeEs es) (sizeEs es)
  | [], l, s => (Sum.refl s).mono (by omega) (by omega)
  | e :: es, l, s => by
    have := layE_sum C e l s
    simp only [layKid, sizeEs]
    exact this.mono (by omega) (by omega)
theorem layAlt_sum (C : Env) : ∀ (keep : List ByteArray) (a : Alt) (t : Ars), Sum t.s (layAlt C keep a t).s (2 * a.size) a.size
  | keep, .mk k a nm n vs e, t => by
    have := layE_sum C e (armIn keep k nm vs) t.s
    simp only [layAlt, Alt.size]
    exact this.mono (by omega) (by omega)
theorem layAlts_sum (C : Env) : ∀ (keep : List ByteArray) (ls : List Alt) (t : Ars), Sum t.s (layAlts C keep ls t).s (2 * sizeLs ls) (sizeLs ls)
  | keep, [], t => (Sum.refl t.s).mono (by omega) (by omega)
  | keep, a :: ls, t => by
    have h1 := layAlt_sum C keep a t
    have h2 := layAlts_sum C keep ls (layAlt C keep a t)
    simp only [layAlts, sizeLs]
    exact (h1.trans h2).mono (by omega) (by omega)
end
/-- All that waits is small. -/
def Sm (N : Nat) (s : Sc) : Prop := (∀ f ∈ s.forms, f.1.length + f.2.size ≤ N) ∧ ∀ d ∈ s.needs, d.length ≤ N
theorem Sm.congr {N : Nat} {s t : Sc} (h : Sm N s) (h1 : t.forms = s.forms) (h2 : t.needs = s.needs) : Sm N t := by unfold Sm; rw [h1, h2]; exact h
theorem Sm.info {N : Nat} {s : Sc} {f : Frm} {d : List ByteArray} (h : Sm N s) (hf : f.1.length + f.2.size ≤ N) (hd : d.length ≤ N) : Sm N (infoS s f d) := by
  refine ⟨fun g hg => ?_, fun g hg => ?_⟩
  · rcases List.mem_append.1 (show g ∈ s.forms ++ [f] from hg) with hg | hg
    · exact h.1 g hg
    · rw [List.mem_singleton.1 hg]; exact hf
  · rcases List.mem_append.1 (show g ∈ s.needs ++ [d] from hg) with hg | hg
    · exact h.2 g hg
    · rw [List.mem_singleton.1 hg]; exact hd
theorem sizeS_len' : ∀ l : List ByteArray, l.length ≤ sizeS l
  | [] => Nat.zero_le _
  | x :: l => by have := sizeS_len' l; simp only [List.length_cons, sizeS]; omega
theorem stepM_sm {N : Nat} {C : Env} {inn : List ByteArray} {t : Grp} {b : Bind} (h : Sm N t.s) (hb : b.size ≤ N) : Sm N (stepM C inn t b).s := by
  have h1 := V.bsize_eq b
  have h2 := sizeS_len' b.args
  unfold stepM
  split
  · exact h
  · split
    · exact h
    · split
      · exact h
      · refine h.info (by dsimp only; omega) ?_
        have k1 : (here inn (freeB b)).length ≤ (freeB b).length := List.length_filter_le _ _
        have k2 : (freeB b).length ≤ (within b.body).length := by unfold freeB lessL; exact List.length_filter_le _ _
        have k3 := V.within_len b.body
        omega
theorem foldM_sm {N : Nat} {C : Env} {inn : List ByteArray} : ∀ (bs : List Bind) (t : Grp), Sm N t.s → (∀ b ∈ bs, b.size ≤ N) → Sm N (bs.foldl (stepM C inn) t).s
  | [], _, h, _ => h
  | b :: bs, t, h, hb => foldM_sm bs _ (stepM_sm h (hb b List.mem_cons_self)) fun b' h' => hb b' (List.mem_cons_of_mem _ h')
theorem ints_sm {N : Nat} {s : Sc} {ats : List (ByteArray × Int)} {b : Int} (h : Sm N s) : Sm N (intsS s ats b) := by
  unfold intsS; split
  · exact h
  · exact h
mutual
theorem layE_sm (N : Nat) (C : Env) : ∀ (e : Exp) (l : List ByteArray) (s : Sc), e.size ≤ N → Sm N s → Sm N (layE C e l s)
  | .mk k a nm n ats bs es ls, l, s, ho, h => by
    have hz : (Exp.mk k a nm n ats bs es ls).size = nm.size + 1 + sizeA ats + sizeBs bs + sizeEs es + sizeLs ls := rfl
    simp only [layE]
    split
    · exact h
    split
    · exact h
    split
    · exact h
    split
    · exact ints_sm h
    split
    · exact ints_sm h
    split
    · exact layKid_sm N C es _ _ (by omega) (foldM_sm bs ⟨preM bs, l.length, s⟩ h fun b hb => by have := V.sizeBs_mem hb; omega)
    split
    · exact layAlts_sm N C _ ls _ (by omega) (layKid_sm N C es _ _ (by omega) h)
    · exact h
theorem layKid_sm (N : Nat) (C : Env) : ∀ (es : List Exp) (l : List ByteArray) (s : Sc), sizeEs es ≤ N → Sm N s → Sm N (layKid C es l s)
  | [], l, s, _, h => h
  | e :: es, l, s, ho, h => layE_sm N C e l s (by simp only [sizeEs] at ho; omega) h
theorem layAlt_sm (N : Nat) (C : Env) : ∀ (keep : List ByteArray) (a : Alt) (t : Ars), a.size ≤ N → Sm N t.s → Sm N (layAlt C keep a t).s
  | keep, .mk k a nm n vs e, t, ho, h => layE_sm N C e _ t.s (by simp only [Alt.size] at ho; omega) h
theorem layAlts_sm (N : Nat) (C : Env) : ∀ (keep : List ByteArray) (ls : List Alt) (t : Ars), sizeLs ls ≤ N → Sm N t.s → Sm N (layAlts C keep ls t).s
  | keep, [], t, _, h => h
  | keep, a :: ls, t, ho, h => layAlts_sm N C keep ls _ (by simp only [sizeLs] at ho; omega) (layAlt_sm N C keep a t (by simp only [sizeLs] at ho; omega) h)
end
end Go.Proofs.YtoepmdbicdoieaaDoor.U
