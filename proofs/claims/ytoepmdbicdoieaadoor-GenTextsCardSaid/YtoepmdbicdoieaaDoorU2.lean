/- What waits stands for something. -/
import Derived.Test.YtoepmdbicdoieaaDoorU1
namespace Go.Proofs.YtoepmdbicdoieaaDoor.U
open Go Go.Eng Go.Proofs Go.Proofs.YtoepmdbicdoieaaDoor.T Go.Proofs.YtoepmdbicdoieaaDoor.V Go.Proofs.YtoepmdbicdoieaaDoor.K
set_option linter.unusedSimpArgs false
set_option linter.unusedVariables false
/-- All that waits may be laid. -/
def AllOk (C : Env) (s : Sc) : Prop := s.forms.length = s.needs.length ∧ ∀ p ∈ s.forms.zip s.needs, okX C (p.1.1 ++ p.2) p.1.2
theorem AllOk.congr {C : Env} {s t : Sc} (h : AllOk C s) (h1 : t.forms = s.forms) (h2 : t.needs = s.needs) : AllOk C t := by unfold AllOk; rw [h1, h2]; exact h
theorem AllOk.info {C : Env} {s : Sc} {f : Frm} {d : List ByteArray} (h : AllOk C s) (hf : okX C (f.1 ++ d) f.2) : AllOk C (infoS s f d) := by
  refine ⟨by simp [infoS, h.1], fun p hp => ?_⟩
  have e : (infoS s f d).forms.zip (infoS s f d).needs = s.forms.zip s.needs ++ [(f, d)] := by
    show (s.forms ++ [f]).zip (s.needs ++ [d]) = _
    rw [List.zip_append h.1]; rfl
  rw [e] at hp
  rcases List.mem_append.1 hp with hp | hp
  · exact h.2 p hp
  · rw [List.mem_singleton.1 hp]; exact hf
theorem okB_eq' (C : Env) (inn : List ByteArray) (b : Bind) : okB C inn b = ((classOf b.args b.body = 1 → KnownA C inn b.body.atoms) ∧ (classOf b.args b.body = 7 → Known C inn (fieldOf b.args b.body).2.2.1) ∧ okX C (b.args ++ here inn (freeB b)) b.body) := by cases b; simp only [okB]; rfl
theorem stepM_ok {C : Env} {inn : List ByteArray} {t : Grp} {b : Bind} (h : AllOk C t.s) (hb : okB C inn b) : AllOk C (stepM C inn t b).s := by
  rw [okB_eq'] at hb
  unfold stepM
  split
  · exact h
  · split
    · exact h
    · split
      · exact h
      · exact h.info hb.2.2
theorem foldM_ok {C : Env} {inn : List ByteArray} : ∀ (bs : List Bind) (t : Grp), AllOk C t.s → (∀ b ∈ bs, okB C inn b) → AllOk C (bs.foldl (stepM C inn) t).s
  | [], _, h, _ => h
  | b :: bs, t, h, hb => foldM_ok bs _ (stepM_ok h (hb b List.mem_cons_self)) fun b' h' => hb b' (List.mem_cons_of_mem _ h')
theorem ints_ok {C : Env} {s : Sc} {ats : List (ByteArray × Int)} {b : Int} (h : AllOk C s) : AllOk C (intsS s ats b) := by
  unfold intsS; split
  · exact h
  · exact h
mutual
theorem layE_ok (C : Env) : ∀ (e : Exp) (l : List ByteArray) (s : Sc), okX C l e → AllOk C s → AllOk C (layE C e l s)
  | .mk k a nm n ats bs es ls, l, s, ho, h => by
    simp only [okX] at ho
    obtain ⟨_, _, _, h5, h6⟩ := ho
    simp only [layE]
    split
    · exact h
    split
    · exact h
    split
    · exact h
    split
    · exact ints_ok h
    split
    · exact ints_ok h
    split
    · rename_i hk
      obtain ⟨_, k2, k3⟩ := h5 hk
      exact layKid_ok C es _ _ k3 (foldM_ok bs ⟨preM bs, l.length, s⟩ h fun b hb => okBs_mem k2 b hb)
    split
    · rename_i hk
      obtain ⟨_, k2, k3⟩ := h6 hk
      exact layAlts_ok C _ ls _ k3 (layKid_ok C es _ _ k2 h)
    · exact h
theorem layKid_ok (C : Env) : ∀ (es : List Exp) (l : List ByteArray) (s : Sc), okKid C l es → AllOk C s → AllOk C (layKid C es l s)
  | [], l, s, _, h => h
  | e :: es, l, s, ho, h => layE_ok C e l s ho h
theorem layAlt_ok (C : Env) : ∀ (keep : List ByteArray) (a : Alt) (t : Ars), okL C keep a → AllOk C t.s → AllOk C (layAlt C keep a t).s
  | keep, .mk k a nm n vs e, t, ho, h => layE_ok C e _ t.s ho h
theorem layAlts_ok (C : Env) : ∀ (keep : List ByteArray) (ls : List Alt) (t : Ars), okLs C keep ls → AllOk C t.s → AllOk C (layAlts C keep ls t).s
  | keep, [], t, _, h => h
  | keep, a :: ls, t, ⟨h1, h2⟩, h => layAlts_ok C keep ls _ h2 (layAlt_ok C keep a t h1 h)
end
end Go.Proofs.YtoepmdbicdoieaaDoor.U
