/- What is laid: how much it is, and what must hold of names. -/
import Derived.Test.YtoepmdbicdoieaaDoorU0
namespace Go.Proofs.YtoepmdbicdoieaaDoor.U
open Go Go.Eng Go.Proofs Go.Proofs.YtoepmdbicdoieaaDoor.T Go.Proofs.YtoepmdbicdoieaaDoor.V Go.Proofs.YtoepmdbicdoieaaDoor.K
set_option linter.unusedSimpArgs false
set_option linter.unusedVariables false
/-- A name that stands for something. -/
def Known (C : Env) (l : List ByteArray) (s : ByteArray) : Prop := ¬ s = ⟨#[]⟩ ∧ (s ∈ l ∨ s ∈ C.tops)
def KnownA (C : Env) (l : List ByteArray) (ats : List (ByteArray × Int)) : Prop := ∀ a ∈ ats, ¬ a.1 = ⟨#[]⟩ → Known C l a.1
mutual
def okX (C : Env) : List ByteArray → Exp → Prop
  | l, .mk k a nm n ats bs es ls =>
    (k = 1 → Known C l nm ∧ KnownA C l ats) ∧ (k = 2 → KnownA C l ats) ∧ (k = 3 → KnownA C l ats) ∧
    (k = 5 → es ≠ [] ∧ okBs C (letIn bs l) bs ∧ okKid C (letIn bs l) es) ∧
    (k = 6 → es ≠ [] ∧ okKid C (here l (withinKid es)) es ∧ okLs C (keepL l ls) ls)
def okKid (C : Env) : List ByteArray → List Exp → Prop
  | _, [] => True
  | l, e :: _ => okX C l e
def okB (C : Env) : List ByteArray → Bind → Prop
  | inn, .mk s a ags e => (classOf ags e = 1 → KnownA C inn e.atoms) ∧ (classOf ags e = 7 → Known C inn (fieldOf ags e).2.2.1) ∧ okX C (ags ++ here inn (lessL (within e) ags)) e
def okBs (C : Env) : List ByteArray → List Bind → Prop
  | _, [] => True
  | inn, b :: bs => okB C inn b ∧ okBs C inn bs
def okL (C : Env) : List ByteArray → Alt → Prop
  | keep, .mk k a nm n vs e => okX C (armIn keep k nm vs) e
def okLs (C : Env) : List ByteArray → List Alt → Prop
  | _, [] => True
  | keep, a :: ls => okL C keep a ∧ okLs C keep ls
end
theorem okBs_mem {C : Env} {inn : List ByteArray} : ∀ {bs : List Bind}, okBs C inn bs → ∀ b ∈ bs, okB C inn b
  | [], _, _, h => nomatch h
  | x :: bs, ⟨h1, h2⟩, b, h => by
    rcases List.mem_cons.1 h with rfl | h
    · exact h1
    · exact okBs_mem h2 b h
theorem okLs_mem {C : Env} {keep : List ByteArray} : ∀ {ls : List Alt}, okLs C keep ls → ∀ a ∈ ls, okL C keep a
  | [], _, _, h => nomatch h
  | x :: bs, ⟨h1, h2⟩, b, h => by
    rcases List.mem_cons.1 h with rfl | h
    · exact h1
    · exact okLs_mem h2 b h
/-- What waits has sizes. -/
def waitsSize (fs : List Frm) : Nat := (fs.map fun f => f.2.size).sum
theorem waitsSize_append (a b : List Frm) : waitsSize (a ++ b) = waitsSize a + waitsSize b := by simp [waitsSize, List.sum_append]
/-- On from one state to another, with so much at most. -/
structure On (s t : Sc) (ni nf ns : Nat) : Prop where
  ins : s.ins.length ≤ t.ins.length ∧ t.ins.length ≤ s.ins.length + ni
  infos : t.infos.length ≤ s.infos.length + nf
  forms : ∃ fs, t.forms = s.forms ++ fs ∧ waitsSize fs ≤ ns
  needs : ∃ ds, t.needs = s.needs ++ ds
  even : s.forms.length = s.infos.length → s.needs.length = s.infos.length → t.forms.length = t.infos.length ∧ t.needs.length = t.infos.length
  ifs : s.infos.length ≤ t.infos.length
theorem On.refl (s : Sc) : On s s 0 0 0 := ⟨⟨Nat.le_refl _, Nat.le_refl _⟩, Nat.le_refl _, ⟨[], by simp, by simp [waitsSize]⟩, ⟨[], by simp⟩, fun h1 h2 => ⟨h1, h2⟩, Nat.le_refl _⟩
theorem On.mono {s t : Sc} {a b c a' b' c' : Nat} (h : On s t a b c) (h1 : a ≤ a') (h2 : b ≤ b') (h3 : c ≤ c') : On s t a' b' c' :=
  let ⟨fs, k1, k2⟩ := h.forms
  ⟨⟨h.ins.1, Nat.le_trans h.ins.2 (by omega)⟩, Nat.le_trans h.infos (by omega), ⟨fs, k1, Nat.le_trans k2 h3⟩, h.needs, h.even, h.ifs⟩
theorem On.trans {s t u : Sc} {a b c a' b' c' : Nat} (h : On s t a b c) (k : On t u a' b' c') : On s u (a + a') (b + b') (c + c') := by
  obtain ⟨fs, h1, h2⟩ := h.forms
  obtain ⟨gs, k1, k2⟩ := k.forms
  obtain ⟨ds, h3⟩ := h.needs
  obtain ⟨es, k3⟩ := k.needs
  have := h.ins; have := k.ins; have := h.infos; have := k.infos; have := h.ifs; have := k.ifs
  exact ⟨⟨by omega, by omega⟩, by omega, ⟨fs ++ gs, by rw [k1, h1, List.append_assoc], by rw [waitsSize_append]; omega⟩, ⟨ds ++ es, by rw [k3, h3, List.append_assoc]⟩, fun e1 e2 => by
    obtain ⟨q1, q2⟩ := h.even e1 e2
    exact k.even q1 q2, by omega⟩
theorem on_put (s : Sc) (i : Ins) : On s (putS s i) 1 0 0 := ⟨⟨by simp [putS], by simp [putS]⟩, by simp [putS], ⟨[], by simp [putS], by simp [waitsSize]⟩, ⟨[], by simp [putS]⟩, fun h1 h2 => ⟨h1, h2⟩, by simp [putS]⟩
theorem on_info (s : Sc) (f : Frm) (d : List ByteArray) : On s (infoS s f d) 0 1 f.2.size :=
  ⟨⟨by simp [infoS], by simp [infoS]⟩, by simp [infoS], ⟨[f], by simp [infoS], by simp [waitsSize]⟩, ⟨[d], by simp [infoS]⟩, fun h1 h2 => ⟨by simp [infoS, h1], by simp [infoS, h2]⟩, by simp [infoS]⟩
theorem on_setA (s : Sc) (i : Nat) (a : Int) : On s (setA s i a) 0 0 0 := ⟨⟨by simp [setA], by simp [setA]⟩, by simp [setA], ⟨[], by simp [setA], by simp [waitsSize]⟩, ⟨[], by simp [setA]⟩, fun h1 h2 => ⟨h1, h2⟩, by simp [setA]⟩
theorem on_setArms (s : Sc) (i : Nat) (a : List Arm) : On s (setArms s i a) 0 0 0 := ⟨⟨by simp [setArms], by simp [setArms]⟩, by simp [setArms], ⟨[], by simp [setArms], by simp [waitsSize]⟩, ⟨[], by simp [setArms]⟩, fun h1 h2 => ⟨h1, h2⟩, by simp [setArms]⟩
theorem on_ints (s : Sc) (ats : List (ByteArray × Int)) (b : Int) : On s (intsS s ats b) 1 0 0 := by
  unfold intsS
  split
  · exact (On.refl s).mono (by omega) (by omega) (by omega)
  · exact on_put _ _
theorem on_stepM (C : Env) (inn : List ByteArray) (t : Grp) (b : Bind) : On t.s (stepM C inn t b).s 0 1 b.body.size := by
  unfold stepM
  split
  · exact (On.refl _).mono (by omega) (by omega) (by omega)
  · split
    · exact (On.refl _).mono (by omega) (by omega) (by omega)
    · split
      · exact (On.refl _).mono (by omega) (by omega) (by omega)
      · exact on_info _ _ _
theorem on_foldM (C : Env) (inn : List ByteArray) : ∀ (bs : List Bind) (t : Grp), On t.s (bs.foldl (stepM C inn) t).s 0 bs.length (sizeBs bs - bs.length)
  | [], t => (On.refl _).mono (by omega) (by simp) (by omega)
  | b :: bs, t => by
    have h1 := on_stepM C inn t b
    have h2 := on_foldM C inn bs (stepM C inn t b)
    have h3 := V.sizeBs_count bs
    have h4 := V.bsize_eq b
    have h5 : sizeBs (b :: bs) = b.size + sizeBs bs := by simp [sizeBs]
    refine (h1.trans h2).mono (by omega) (by simp; omega) ?_
    rw [h5, List.length_cons]
    omega
theorem on_letM (C : Env) (bs : List Bind) (l : List ByteArray) (s : Sc) : On s (letM C bs l s).s 0 bs.length (sizeBs bs - bs.length) := on_foldM C (letIn bs l) bs ⟨preM bs, l.length, s⟩
mutual
theorem layE_on (C : Env) : ∀ (e : Exp) (l : List ByteArray) (s : Sc), On s (layE C e l s) (2 * e.size) e.size (e.size - 1)
  | .mk k a nm n ats bs es ls, l, s => by
    have hz : (Exp.mk k a nm n ats bs es ls).size = nm.size + 1 + sizeA ats + sizeBs bs + sizeEs es + sizeLs ls := rfl
    have hc := V.sizeBs_count bs
    rw [hz]
    simp only [layE]
    split
    · exact (On.refl s).mono (by omega) (by omega) (by omega)
    split
    · exact ((on_put _ _).trans (on_put _ _)).mono (by omega) (by omega) (by omega)
    split
    · exact ((on_put _ _).trans (on_put _ _)).mono (by omega) (by omega) (by omega)
    split
    · exact ((on_ints _ _ _).trans (on_put _ _)).mono (by omega) (by omega) (by omega)
    split
    · exact ((on_ints _ _ _).trans (on_put _ _)).mono (by omega) (by omega) (by omega)
    split
    · exact (((on_letM C bs l s).trans (on_put _ _)).trans (layKid_on C es (letIn bs l) _)).mono (by omega) (by omega) (by omega)
    split
    · refine ((((on_put s _).trans (layKid_on C es _ _)).trans ((on_setA _ _ _).trans (on_put _ _))).trans ((layAlts_on C (keepL l ls) ls ⟨[], armsS (layKid C es (here l (withinKid es)) (caseS C es ls l s)) s.ins.length (keepL l ls)⟩).trans (on_setArms _ _ _))).mono (by omega) (by omega) (by omega)
    · exact (On.refl s).mono (by omega) (by omega) (by omega)
theorem layKid_on (C : Env) : ∀ (es : List Exp) (l : List ByteArray) (s : Sc), On s (layKid C es l s) (2 * sizeEs es) (sizeEs es) (sizeEs es)
  | [], l, s => (On.refl s).mono (by omega) (by omega) (by omega)
  | e :: es, l, s => by
    have := layE_on C e l s
    simp only [layKid, sizeEs]
    exact this.mono (by omega) (by omega) (by omega)
theorem layAlt_on (C : Env) : ∀ (keep : List ByteArray) (a : Alt) (t : Ars), On t.s (layAlt C keep a t).s (2 * a.size) a.size a.size
  | keep, .mk k a nm n vs e, t => by
    have := layE_on C e (armIn keep k nm vs) t.s
    simp only [layAlt, Alt.size]
    exact this.mono (by omega) (by omega) (by omega)
theorem layAlts_on (C : Env) : ∀ (keep : List ByteArray) (ls : List Alt) (t : Ars), On t.s (layAlts C keep ls t).s (2 * sizeLs ls) (sizeLs ls) (sizeLs ls)
  | keep, [], t => (On.refl t.s).mono (by omega) (by omega) (by omega)
  | keep, a :: ls, t => by
    have h1 := layAlt_on C keep a t
    have h2 := layAlts_on C keep ls (layAlt C keep a t)
    simp only [layAlts, sizeLs]
    exact (h1.trans h2).mono (by omega) (by omega) (by omega)
end
theorem layAlts_append (C : Env) (keep : List ByteArray) : ∀ (a b : List Alt) (t : Ars), layAlts C keep (a ++ b) t = layAlts C keep b (layAlts C keep a t)
  | [], b, t => by simp [layAlts]
  | x :: a, b, t => by simp only [List.cons_append, layAlts]; exact layAlts_append C keep a b _
end Go.Proofs.YtoepmdbicdoieaaDoor.U
