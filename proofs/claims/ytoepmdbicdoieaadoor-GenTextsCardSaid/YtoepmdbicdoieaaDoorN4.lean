/- In a right program names stand for something wherever it is laid. -/
import Derived.Test.YtoepmdbicdoieaaDoorN3
namespace Go.Proofs.YtoepmdbicdoieaaDoor.N
open Go Go.Eng Go.Proofs Go.Proofs.YtoepmdbicdoieaaDoor.T Go.Proofs.YtoepmdbicdoieaaDoor.K Go.Proofs.YtoepmdbicdoieaaDoor.U
open V (lessL onceL atomsL within withinB withinL withinBs withinKid withinLs classOf fieldOf inner)
open W (findL_has)
set_option linter.unusedSimpArgs false
set_option linter.unusedVariables false
theorem onceF_has (s : ByteArray) : ∀ (l acc : List ByteArray), s ∈ acc ∨ s ∈ l → s ∈ l.foldl (fun out s => out ++ lessL [s] out) acc
  | [], acc, h => by simpa using h
  | x :: l, acc, h => by
    simp only [List.foldl_cons]
    refine onceF_has s l _ ?_
    rcases h with h | h
    · exact .inl (List.mem_append_left _ h)
    rcases List.mem_cons.1 h with rfl | h
    · refine .inl ?_
      by_cases hs : hasB acc s = true
      · exact List.mem_append_left _ (hasB_iff.1 hs)
      · exact List.mem_append_right _ (mem_lessL.2 ⟨by simp, fun h => hs (hasB_iff.2 h)⟩)
    · exact .inr h
theorem onceL_has {s : ByteArray} {l : List ByteArray} (h : s ∈ l) : s ∈ onceL l := onceF_has s l [] (.inr h)
theorem inner_in {e : Exp} {s : ByteArray} (h : s ∈ inner e) : s ∈ within e := by rw [V.within_eq]; exact onceL_has h
theorem atoms_in {ats : List (ByteArray × Int)} {a : ByteArray × Int} (h : a ∈ ats) (hn : ¬ a.1 = ⟨#[]⟩) : a.1 ∈ atomsL ats := by
  simp only [atomsL, List.mem_flatMap]
  exact ⟨a, h, mem_lessL.2 ⟨by simp, by simpa using hn⟩⟩
theorem atomsK {C : Env} {l : List ByteArray} {e : Exp} (hk : e.kind = 1 ∨ e.kind = 2 ∨ e.kind = 3) (h : ∀ s ∈ within e, s ∈ l ∨ s ∈ C.tops) : KnownA C l e.atoms := fun a ha hn => ⟨hn, h _ (inner_in (by
  unfold inner
  rcases hk with h | h | h
  · rw [if_pos h]; exact List.mem_append_right _ (atoms_in ha hn)
  · rw [if_neg (by omega), if_pos (.inl h)]; exact atoms_in ha hn
  · rw [if_neg (by omega), if_pos (.inr h)]; exact atoms_in ha hn))⟩
theorem class1 {ags : List ByteArray} {e : Exp} (h : classOf ags e = 1) : ags = [] ∧ e.kind = 2 := by
  unfold classOf at h
  split at h
  · omega
  rename_i h1
  split at h
  · rename_i h2; exact ⟨List.length_eq_zero_iff.1 (by omega), h2⟩
  · split at h
    · omega
    · split at h <;> omega
theorem class7 {ags : List ByteArray} {e : Exp} (h : classOf ags e = 7) : ags = [] ∧ e.kind = 6 ∧ ∃ k ks a, e.kids = k :: ks ∧ e.alts = [a] ∧ V.plainB k = true ∧ a.kind = 1 ∧ fieldOf ags e = (a.name, V.lastAt a.vars a.body.name a.vars.length, k.name, true) ∧ 0 ≤ V.lastAt a.vars a.body.name a.vars.length := by
  unfold classOf at h
  split at h
  · omega
  rename_i h1
  split at h
  · omega
  split at h
  · omega
  split at h
  · rename_i h4
    unfold fieldOf at h4 ⊢
    split at h4
    · rename_i k ks a e1 e2
      split at h4
      · rename_i hp
        obtain ⟨⟨p1, p2, p3, p4, p5⟩, p6⟩ := hp
        refine ⟨List.length_eq_zero_iff.1 p1, p2, k, ks, a, e1, e2, p3, p4, ?_, p6⟩
        rw [if_pos ⟨⟨p1, p2, p3, p4, p5⟩, p6⟩]
      · cases h4
    · cases h4
  · omega
theorem rt_eq (ds : List Dat) (inn : List ByteArray) (e : Exp) : Rt ds inn e =
    ((e.kind = 1 ∨ e.kind = 2 ∨ e.kind = 3 ∨ e.kind = 4 ∨ e.kind = 5 ∨ e.kind = 6) ∧
    (e.kind = 1 → e.name ∈ inn ∧ e.atoms.length ≤ 8 ∧ AtomsR inn e.atoms) ∧ (e.kind = 2 → arityD ds e.name = some (e.atoms.length : Int) ∧ AtomsR inn e.atoms) ∧
    (e.kind = 3 → ¬ findP e.name = 0 ∧ (e.atoms.length : Int) = arityP (findP e.name) ∧ AtomsR inn e.atoms) ∧
    (e.kind = 5 → e.binds ≠ [] ∧ e.kids ≠ [] ∧ (∀ b ∈ e.binds, ¬ b.name = ⟨#[]⟩) ∧ (e.binds.map Bind.name).Nodup ∧ RtBs ds (inn ++ e.binds.map Bind.name) e.binds ∧ RtKid ds (inn ++ e.binds.map Bind.name) e.kids) ∧
    (e.kind = 6 → e.kids ≠ [] ∧ e.alts ≠ [] ∧ RtKid ds inn e.kids ∧ RtLs ds inn e.alts)) := by cases e; simp only [Rt]; rfl
theorem rtB_eq (ds : List Dat) (inn : List ByteArray) (b : Bind) : RtB ds inn b = (b.args.length ≤ 8 ∧ ¬ (⟨#[]⟩ : ByteArray) ∈ b.args ∧ b.args.Nodup ∧ Rt ds (inn ++ b.args) b.body) := by cases b; simp only [RtB]; rfl
theorem keep_has {own names keep : List ByteArray} {s : ByteArray} (h : s ∈ keep ∨ (s ∈ names ∧ ¬ s ∈ own)) : s ∈ names.foldl (keep1 own) keep := by
  induction names generalizing keep with
  | nil => simpa using h
  | cons x l ih =>
    refine ih ?_
    unfold keep1
    rcases h with h | ⟨h, hn⟩
    · refine .inl ?_
      split
      · exact h
      · exact List.mem_append_left _ h
    rcases List.mem_cons.1 h with rfl | h
    · refine .inl ?_
      split
      · rename_i hh
        rcases hh with hh | hh
        · exact absurd ((findL_has _ _).1 hh) hn
        · exact (findL_has _ _).1 hh
      · simp
    · exact .inr ⟨h, hn⟩
theorem keepL_has {l : List ByteArray} {s : ByteArray} : ∀ {ls : List Alt} {keep : List ByteArray}, (s ∈ keep ∨ ∃ a ∈ ls, s ∈ here l (within a.body) ∧ ¬ s ∈ ownA a.kind a.name a.vars) → s ∈ ls.foldl (keepA l) keep
  | [], keep, h => by
    rcases h with h | ⟨a, ha, _⟩
    · exact h
    · exact nomatch ha
  | a :: ls, keep, h => by
    refine keepL_has (ls := ls) ?_
    rcases h with h | ⟨b, hb, h1, h2⟩
    · exact .inl (keep_has (.inl h))
    rcases List.mem_cons.1 hb with rfl | hb
    · exact .inl (keep_has (.inr ⟨h1, h2⟩))
    · exact .inr ⟨b, hb, h1, h2⟩
theorem here_in {l names : List ByteArray} {s : ByteArray} (h : s ∈ names) (hl : s ∈ l) : s ∈ here l names := List.mem_filter.2 ⟨h, by simpa using (findL_has l s).2 hl⟩
theorem own_arm {keep : List ByteArray} {k : Int} {nm s : ByteArray} {vs : List ByteArray} (h : s ∈ ownA k nm vs ∨ s ∈ keep) : s ∈ armIn keep k nm vs := by
  unfold ownA at h
  unfold armIn
  split at h
  · rename_i h1
    rw [if_pos h1]
    rcases h with h | h <;> simp [h]
  · rename_i h1
    rw [if_neg h1]
    split at h
    · rename_i h3; rw [if_pos h3]; rcases h with h | h <;> simp_all
    · rename_i h3; rw [if_neg h3]; rcases h with h | h <;> simp_all
theorem within_not_own {a : Alt} {s : ByteArray} (h : s ∈ within a.body) (hn : ¬ s ∈ ownA a.kind a.name a.vars) : s ∈ withinL a := by
  cases a with
  | mk k at_ nm n vs e =>
    have hn' : ¬ s ∈ ownA k nm vs := hn
    have h' : s ∈ within e := h
    simp only [withinL]
    unfold ownA at hn'
    by_cases h1 : k = 1
    · rw [if_pos h1] at hn' ⊢; exact mem_lessL.2 ⟨h', hn'⟩
    · rw [if_neg h1] at hn' ⊢
      by_cases h3 : k = 3
      · rw [if_pos h3] at hn' ⊢; exact mem_lessL.2 ⟨h', hn'⟩
      · rw [if_neg h3] at ⊢; exact h'
theorem inner_mk (k a : Int) (nm : ByteArray) (n : Int) (ats : List (ByteArray × Int)) (bs : List Bind) (es : List Exp) (ls : List Alt) : inner (.mk k a nm n ats bs es ls) =
    (if k = 1 then lessL [nm] [⟨#[]⟩] ++ atomsL ats else if k = 2 ∨ k = 3 then atomsL ats else if k = 5 then lessL (withinBs bs ++ withinKid es) (bs.map Bind.name) else if k = 6 then withinKid es ++ withinLs ls else []) := rfl
mutual
theorem okX_of (C : Env) (ds : List Dat) : ∀ (e : Exp) (inn l : List ByteArray), Rt ds inn e → ¬ (⟨#[]⟩ : ByteArray) ∈ inn → (∀ s ∈ within e, s ∈ l ∨ s ∈ C.tops) → okX C l e
  | .mk k a nm n ats bs es ls, inn, l, hr, hi, hw => by
    have hr' := hr
    simp only [Rt] at hr
    obtain ⟨_, r1, r2, r3, r5, r6⟩ := hr
    have hin : ∀ s ∈ inner (.mk k a nm n ats bs es ls), s ∈ l ∨ s ∈ C.tops := fun s hs => hw s (inner_in hs)
    simp only [okX]
    refine ⟨fun h1 => ⟨⟨fun e => hi (e ▸ (r1 h1).1), ?_⟩, atomsK (e := .mk k a nm n ats bs es ls) (.inl h1) hw⟩, fun h2 => atomsK (e := .mk k a nm n ats bs es ls) (.inr (.inl h2)) hw, fun h3 => atomsK (e := .mk k a nm n ats bs es ls) (.inr (.inr h3)) hw, fun h5 => ?_, fun h6 => ?_⟩
    · have hnm : ¬ nm = ⟨#[]⟩ := fun e => hi (e ▸ (r1 h1).1)
      refine hin nm ?_
      rw [inner_mk, if_pos h1]
      exact List.mem_append_left _ (mem_lessL.2 ⟨by simp, by simpa using hnm⟩)
    · obtain ⟨q1, q2, q3, q4, q5, q6⟩ := r5 h5
      have hi' : ¬ (⟨#[]⟩ : ByteArray) ∈ inn ++ bs.map Bind.name := fun h => by
        rcases List.mem_append.1 h with h | h
        · exact hi h
        · obtain ⟨b, hb, e⟩ := List.mem_map.1 h; exact q3 b hb e
      have hlet : ∀ s, s ∈ bs.map Bind.name ∨ s ∈ l → s ∈ letIn bs l := fun s h => by
        unfold letIn
        rcases h with h | h
        · exact List.mem_append_right _ h
        · exact List.mem_append_left _ (List.mem_append_left _ h)
      have hsub : ∀ s ∈ withinBs bs ++ withinKid es, s ∈ letIn bs l ∨ s ∈ C.tops := fun s hs => by
        by_cases hb : s ∈ bs.map Bind.name
        · exact .inl (hlet s (.inl hb))
        · rcases hin s (by
            rw [inner_mk, if_neg (by omega), if_neg (by omega), if_pos h5]
            exact mem_lessL.2 ⟨hs, hb⟩) with h | h
          · exact .inl (hlet s (.inr h))
          · exact .inr h
      exact ⟨q2, okBs_of C ds bs _ _ q5 hi' fun s hs => hsub s (List.mem_append_left _ hs), okKid_of C ds es _ _ q6 hi' fun s hs => hsub s (List.mem_append_right _ hs)⟩
    · obtain ⟨q1, q2, q3, q4⟩ := r6 h6
      have hsub : ∀ s ∈ withinKid es ++ withinLs ls, s ∈ l ∨ s ∈ C.tops := fun s hs => hin s (by
        rw [inner_mk, if_neg (by omega), if_neg (by omega), if_neg (by omega), if_pos h6]
        exact hs)
      refine ⟨q1, okKid_of C ds es _ _ q3 hi fun s hs => ?_, okLs_of C ds ls _ _ q4 hi fun a ha s hs => ?_⟩
      · rcases hsub s (List.mem_append_left _ hs) with h | h
        · exact .inl (here_in hs h)
        · exact .inr h
      · by_cases ho : s ∈ ownA a.kind a.name a.vars
        · exact .inl (own_arm (.inl ho))
        · rcases hsub s (List.mem_append_right _ (by rw [V.withinLs_flat, List.mem_flatMap]; exact ⟨a, ha, within_not_own hs ho⟩)) with h | h
          · exact .inl (own_arm (.inr (keepL_has (.inr ⟨a, ha, here_in hs h, ho⟩))))
          · exact .inr h
theorem okKid_of (C : Env) (ds : List Dat) : ∀ (es : List Exp) (inn l : List ByteArray), RtKid ds inn es → ¬ (⟨#[]⟩ : ByteArray) ∈ inn → (∀ s ∈ withinKid es, s ∈ l ∨ s ∈ C.tops) → okKid C l es
  | [], _, _, _, _, _ => by simp only [okKid]
  | e :: es, inn, l, hr, hi, hw => by simp only [okKid]; exact okX_of C ds e inn l hr hi hw
theorem okB_of (C : Env) (ds : List Dat) : ∀ (b : Bind) (inn l : List ByteArray), RtB ds inn b → ¬ (⟨#[]⟩ : ByteArray) ∈ inn → (∀ s ∈ withinB b, s ∈ l ∨ s ∈ C.tops) → okB C l b
  | .mk s a ags e, inn, l, hr, hi, hw => by
    simp only [RtB] at hr
    obtain ⟨r1, r2, r3, r4⟩ := hr
    simp only [okB]
    refine ⟨fun h1 => ?_, fun h7 => ?_, okX_of C ds e _ _ r4 (fun h => ?_) fun x hx => ?_⟩
    · obtain ⟨rfl, h2⟩ := class1 h1
      exact atomsK (.inr (.inl h2)) fun x hx => hw x (mem_lessL.2 ⟨hx, fun h => nomatch h⟩)
    · obtain ⟨rfl, h6, k, ks, al, e1, e2, e3, e4, e5, e6⟩ := class7 h7
      rw [e5]
      have r4' := r4
      rw [rt_eq] at r4'
      have hk := (r4'.2.2.2.2.2 h6).2.2.1
      rw [e1] at hk
      simp only [RtKid] at hk
      rw [rt_eq] at hk
      have hpk : k.kind = 1 := by unfold V.plainB at e3; simp at e3; exact e3.1
      obtain ⟨hn, _⟩ := hk.2.1 hpk
      have hne : ¬ k.name = ⟨#[]⟩ := fun e => by rw [e] at hn; exact hi (by simpa using hn)
      refine ⟨hne, hw _ ?_⟩
      simp only [withinB]
      refine mem_lessL.2 ⟨inner_in ?_, fun h => nomatch h⟩
      unfold inner
      rw [if_neg (by omega), if_neg (by omega), if_neg (by omega), if_pos h6, e1]
      refine List.mem_append_left _ ?_
      show k.name ∈ within k
      refine inner_in ?_
      unfold inner
      rw [if_pos hpk]
      exact List.mem_append_left _ (mem_lessL.2 ⟨by simp, by simpa using hne⟩)
    · rcases List.mem_append.1 h with h | h
      · exact hi h
      · exact r2 h
    · by_cases ha : x ∈ ags
      · exact .inl (List.mem_append_left _ ha)
      · have hx' : x ∈ lessL (within e) ags := mem_lessL.2 ⟨hx, ha⟩
        rcases hw x hx' with h | h
        · exact .inl (List.mem_append_right _ (here_in hx' h))
        · exact .inr h
theorem okBs_of (C : Env) (ds : List Dat) : ∀ (bs : List Bind) (inn l : List ByteArray), RtBs ds inn bs → ¬ (⟨#[]⟩ : ByteArray) ∈ inn → (∀ s ∈ withinBs bs, s ∈ l ∨ s ∈ C.tops) → okBs C l bs
  | [], _, _, _, _, _ => by simp only [U.okBs]
  | b :: bs, inn, l, hr, hi, hw => by
    simp only [RtBs] at hr
    simp only [withinBs] at hw
    simp only [U.okBs]
    exact ⟨okB_of C ds b inn l hr.1 hi fun s hs => hw s (List.mem_append_left _ hs), okBs_of C ds bs inn l hr.2 hi fun s hs => hw s (List.mem_append_right _ hs)⟩
theorem okL_of (C : Env) (ds : List Dat) : ∀ (a : Alt) (inn keep : List ByteArray), RtL ds inn a → ¬ (⟨#[]⟩ : ByteArray) ∈ inn → (∀ s ∈ within a.body, s ∈ armIn keep a.kind a.name a.vars ∨ s ∈ C.tops) → okL C keep a
  | .mk k a nm n vs e, inn, keep, hr, hi, hw => by
    simp only [RtL] at hr
    obtain ⟨r1, r2, r3, r4⟩ := hr
    simp only [okL]
    refine okX_of C ds e _ _ r4 (fun h => ?_) hw
    unfold altIn at h
    split at h
    · rename_i h1
      rcases List.mem_append.1 h with h | h
      · exact hi h
      · exact (r2 h1).2.1 h
    · split at h
      · rename_i h3
        rcases List.mem_append.1 h with h | h
        · exact hi h
        · simp at h; exact r3 h3 h.symm
      · exact hi h
theorem okLs_of (C : Env) (ds : List Dat) : ∀ (ls : List Alt) (inn keep : List ByteArray), RtLs ds inn ls → ¬ (⟨#[]⟩ : ByteArray) ∈ inn → (∀ a ∈ ls, ∀ s ∈ within a.body, s ∈ armIn keep a.kind a.name a.vars ∨ s ∈ C.tops) → okLs C keep ls
  | [], _, _, _, _, _ => by simp only [U.okLs]
  | a :: ls, inn, keep, hr, hi, hw => by
    simp only [RtLs] at hr
    simp only [U.okLs]
    exact ⟨okL_of C ds a inn keep hr.1 hi (hw a List.mem_cons_self), okLs_of C ds ls inn keep hr.2 hi fun b hb => hw b (List.mem_cons_of_mem _ hb)⟩
end
theorem right_right {ds : List Dat} {bs : List Bind} (h : (checkC ds bs).e = 0) : W.Right ds bs := by
  have hR := right_of h
  have hi : ¬ (⟨#[]⟩ : ByteArray) ∈ bs.map Bind.name := fun h => by obtain ⟨b, hb, e⟩ := List.mem_map.1 h; exact hR.names b hb e
  refine ⟨hR.cons, fun b hb => ?_⟩
  have hf := RtBs_mem hR.forms b hb
  rw [rtB_eq] at hf
  refine okX_of (env ds bs) ds b.body _ _ hf.2.2.2 (fun h => ?_) fun s hs => ?_
  · rcases List.mem_append.1 h with h | h
    · exact hi h
    · exact hf.2.1 h
  · rw [List.append_nil]
    by_cases ha : s ∈ b.args
    · exact .inl ha
    · exact .inr (right_free h hb s (mem_lessL.2 ⟨hs, ha⟩))
end Go.Proofs.YtoepmdbicdoieaaDoor.N
