/- What a right program is, said outright; and that its names stand for something wherever it is laid. -/
import Derived.Test.YtoepmdbicdoieaaDoorN1
import Derived.Test.YtoepmdbicdoieaaDoorW12
namespace Go.Proofs.YtoepmdbicdoieaaDoor.N
open Go Go.Eng Go.Proofs Go.Proofs.YtoepmdbicdoieaaDoor.T Go.Proofs.YtoepmdbicdoieaaDoor.K Go.Proofs.YtoepmdbicdoieaaDoor.U
open V (lessL onceL atomsL within withinB withinL withinBs withinKid withinLs classOf fieldOf)
set_option linter.unusedSimpArgs false
set_option linter.unusedVariables false
def AtomsR (inn : List ByteArray) (ats : List (ByteArray × Int)) : Prop := ∀ x ∈ ats, ¬ x.1 = ⟨#[]⟩ → x.1 ∈ inn
mutual
/-- A right expression, where some names stand. -/
def Rt (ds : List Dat) : List ByteArray → Exp → Prop
  | inn, .mk k a s n ats bs es ls =>
    (k = 1 ∨ k = 2 ∨ k = 3 ∨ k = 4 ∨ k = 5 ∨ k = 6) ∧
    (k = 1 → s ∈ inn ∧ ats.length ≤ 8 ∧ AtomsR inn ats) ∧ (k = 2 → arityD ds s = some (ats.length : Int) ∧ AtomsR inn ats) ∧
    (k = 3 → ¬ findP s = 0 ∧ (ats.length : Int) = arityP (findP s) ∧ AtomsR inn ats) ∧
    (k = 5 → bs ≠ [] ∧ es ≠ [] ∧ (∀ b ∈ bs, ¬ b.name = ⟨#[]⟩) ∧ (bs.map Bind.name).Nodup ∧ RtBs ds (inn ++ bs.map Bind.name) bs ∧ RtKid ds (inn ++ bs.map Bind.name) es) ∧
    (k = 6 → es ≠ [] ∧ ls ≠ [] ∧ RtKid ds inn es ∧ RtLs ds inn ls)
def RtKid (ds : List Dat) : List ByteArray → List Exp → Prop
  | _, [] => True
  | inn, e :: _ => Rt ds inn e
def RtB (ds : List Dat) : List ByteArray → Bind → Prop
  | inn, .mk s a ags e => ags.length ≤ 8 ∧ ¬ (⟨#[]⟩ : ByteArray) ∈ ags ∧ ags.Nodup ∧ Rt ds (inn ++ ags) e
def RtBs (ds : List Dat) : List ByteArray → List Bind → Prop
  | _, [] => True
  | inn, b :: bs => RtB ds inn b ∧ RtBs ds inn bs
def RtL (ds : List Dat) : List ByteArray → Alt → Prop
  | inn, .mk k a s n vs e => (k = 1 ∨ k = 2 ∨ k = 3) ∧ (k = 1 → arityD ds s = some (vs.length : Int) ∧ ¬ (⟨#[]⟩ : ByteArray) ∈ vs ∧ vs.Nodup) ∧ (k = 3 → ¬ s = ⟨#[]⟩) ∧ Rt ds (altIn k s vs inn) e
def RtLs (ds : List Dat) : List ByteArray → List Alt → Prop
  | _, [] => True
  | inn, a :: ls => RtL ds inn a ∧ RtLs ds inn ls
end
theorem RtBs_mem {ds : List Dat} {inn : List ByteArray} : ∀ {bs : List Bind}, RtBs ds inn bs → ∀ b ∈ bs, RtB ds inn b
  | [], _, _, h => nomatch h
  | x :: bs, ⟨h1, h2⟩, b, h => by
    rcases List.mem_cons.1 h with rfl | h
    · exact h1
    · exact RtBs_mem h2 b h
theorem Good.atomsR (a : Int) (inn : List ByteArray) (ats : List (ByteArray × Int)) (c : Ck) : Good c (atomsC a inn ats c) (AtomsR inn ats) := (Good.atoms a inn ats c).mono fun _ h => h
theorem Good.dupS : ∀ (l : List Bind) (p : List ByteArray) (c : Ck), Good c (dupC p l c) ((∀ b ∈ l, ¬ b.name = ⟨#[]⟩) ∧ (p.Nodup → (p ++ l.map Bind.name).Nodup))
  | [], p, c => (Good.refl c).mono fun _ _ => ⟨(fun _ h => nomatch h), fun h => by simpa using h⟩
  | b :: l, p, c => by
    have h1 : Good c (stepD p b c) _ := Good.trans (Good.when (p := b.name = ⟨#[]⟩) (by decide)) (Good.when (p := hasB p b.name = true) (by decide))
    refine (h1.trans (Good.dupS l (p ++ [b.name]) _)).mono fun _ ⟨⟨q1, q2⟩, q3, q4⟩ => ⟨fun x hx => ?_, fun hp => ?_⟩
    · rcases List.mem_cons.1 hx with rfl | hx
      · exact q1
      · exact q3 x hx
    · have := q4 (by
        rw [List.nodup_append]
        exact ⟨hp, by simp, fun x hx y hy e => by simp at hy; subst hy; exact q2 (hasB_iff.2 (e ▸ hx))⟩)
      simpa using this
theorem Good.argsS (a : Int) (l : List ByteArray) (c : Ck) : Good c (argsC a l c) (l.length ≤ 8 ∧ ¬ (⟨#[]⟩ : ByteArray) ∈ l ∧ l.Nodup) := by
  unfold argsC
  split
  · exact .fail _ _ (by decide) _
  rename_i h1
  split
  · exact .fail _ _ (by decide) _
  rename_i h2
  split
  · exact .fail _ _ (by decide) _
  rename_i h3
  refine (Good.refl c).mono fun _ _ => ⟨by omega, fun h => h2 (hasB_iff.2 h), ?_⟩
  have := (twiceB_no l [] (by simp)).1 (by simpa using h3)
  simpa using this
theorem Good.headS (ds : List Dat) (k a : Int) (s : ByteArray) (l : List ByteArray) (c : Ck) : Good c (headC ds k a s l c) ((k = 1 ∨ k = 2 ∨ k = 3) ∧ (k = 1 → arityD ds s = some (l.length : Int) ∧ ¬ (⟨#[]⟩ : ByteArray) ∈ l ∧ l.Nodup) ∧ (k = 3 → ¬ s = ⟨#[]⟩)) := by
  unfold headC
  split
  · rename_i h
    split
    · exact .fail _ _ (by decide) _
    rename_i m hm
    split
    · exact .fail _ _ (by decide) _
    rename_i h1
    split
    · exact .fail _ _ (by decide) _
    rename_i h2
    split
    · exact .fail _ _ (by decide) _
    rename_i h3
    refine (Good.refl c).mono fun _ _ => ⟨.inl h, fun _ => ⟨by rw [hm]; simp at h1; rw [h1], fun h => h2 (hasB_iff.2 h), ?_⟩, fun h' => by omega⟩
    have := (twiceB_no l [] (by simp)).1 (by simpa using h3)
    simpa using this
  rename_i n1
  split
  · rename_i h; exact (Good.refl c).mono fun _ _ => ⟨.inr (.inl h), fun h' => absurd h' n1, fun h' => by omega⟩
  rename_i n2
  split
  · rename_i h; exact (Good.when (by decide)).mono fun _ q => ⟨.inr (.inr h), fun h' => absurd h' n1, fun _ => q⟩
  · exact .fail _ _ (by decide) _
mutual
theorem expR (ds : List Dat) : ∀ (e : Exp) (inn : List ByteArray) (c : Ck), Good c (expC ds e inn c) (Rt ds inn e)
  | .mk k a s n ats bs es ls, inn, c => by
    simp only [expC]
    split
    · rename_i h; exact .bad h _
    by_cases h1 : k = 1
    · rw [if_pos h1]
      have g1 : Good c (whenC (hasB inn s = false) c a 31) _ := Good.when (by decide)
      have g2 : Good (whenC (hasB inn s = false) c a 31) (whenC (8 < ats.length) (whenC (hasB inn s = false) c a 31) a 33) _ := Good.when (by decide)
      refine ((g1.trans g2).trans (Good.atomsR _ _ _ _)).mono fun _ ⟨⟨q1, q2⟩, q3⟩ => ?_
      simp only [Rt]
      exact ⟨.inl h1, fun _ => ⟨Classical.byContradiction fun hn => q1 (hasB_no hn), by omega, q3⟩, fun h => by omega, fun h => by omega, fun h => by omega, fun h => by omega⟩
    rw [if_neg h1]
    by_cases h2 : k = 2
    · rw [if_pos h2]
      have g1 : Good c (whenC ((arityD ds s).isSome = false) c a 32) _ := Good.when (by decide)
      have g2 : Good (whenC ((arityD ds s).isSome = false) c a 32) (whenC (¬ (ats.length : Int) = (arityD ds s).getD 0) (whenC ((arityD ds s).isSome = false) c a 32) a 33) _ := Good.when (by decide)
      refine ((g1.trans g2).trans (Good.atomsR _ _ _ _)).mono fun _ ⟨⟨q1, q2⟩, q3⟩ => ?_
      simp only [Rt]
      refine ⟨.inr (.inl h2), fun h => by omega, fun _ => ⟨?_, q3⟩, fun h => by omega, fun h => by omega, fun h => by omega⟩
      cases hm : arityD ds s with
      | none => rw [hm] at q1; simp at q1
      | some m => rw [hm] at q2; simp at q2; rw [q2]
    rw [if_neg h2]
    by_cases h3 : k = 3
    · rw [if_pos h3]
      have g1 : Good c (whenC (findP s = 0) c a 34) _ := Good.when (by decide)
      have g2 : Good (whenC (findP s = 0) c a 34) (whenC (¬ (ats.length : Int) = arityP (findP s)) (whenC (findP s = 0) c a 34) a 33) _ := Good.when (by decide)
      refine ((g1.trans g2).trans (Good.atomsR _ _ _ _)).mono fun _ ⟨⟨q1, q2⟩, q3⟩ => ?_
      simp only [Rt]
      exact ⟨.inr (.inr (.inl h3)), fun h => by omega, fun h => by omega, fun _ => ⟨q1, by simpa using q2, q3⟩, fun h => by omega, fun h => by omega⟩
    rw [if_neg h3]
    by_cases h4 : k = 4
    · rw [if_pos h4]
      refine (Good.refl c).mono fun _ _ => ?_
      simp only [Rt]
      exact ⟨.inr (.inr (.inr (.inl h4))), fun h => by omega, fun h => by omega, fun h => by omega, fun h => by omega, fun h => by omega⟩
    rw [if_neg h4]
    by_cases h5 : k = 5
    · rw [if_pos h5]
      split
      · exact .fail _ _ (by decide) _
      rename_i hne
      refine (((Good.dupS bs [] c).trans (bindsR ds bs (inn ++ bs.map Bind.name) _)).trans (kidR ds es (inn ++ bs.map Bind.name) _)).mono fun _ ⟨⟨⟨q0, q0'⟩, q1⟩, q2⟩ => ?_
      simp only [Rt]
      exact ⟨.inr (.inr (.inr (.inr (.inl h5)))), fun h => by omega, fun h => by omega, fun h => by omega, fun _ => ⟨fun e => hne (.inl (by rw [e]; rfl)), fun e => hne (.inr (by rw [e]; rfl)), q0, by simpa using q0' (by simp), q1, q2⟩, fun h => by omega⟩
    rw [if_neg h5]
    by_cases h6 : k = 6
    · rw [if_pos h6]
      split
      · exact .fail _ _ (by decide) _
      rename_i hne
      refine ((kidR ds es inn c).trans (altsR ds ls [] inn _)).mono fun _ ⟨q1, q2⟩ => ?_
      simp only [Rt]
      exact ⟨.inr (.inr (.inr (.inr (.inr h6)))), fun h => by omega, fun h => by omega, fun h => by omega, fun h => by omega, fun _ => ⟨fun e => hne (.inl (by rw [e]; rfl)), fun e => hne (.inr (by rw [e]; rfl)), q1, q2⟩⟩
    rw [if_neg h6]
    exact .fail _ _ (by decide) _
theorem formR (ds : List Dat) : ∀ (b : Bind) (inn : List ByteArray) (c : Ck), Good c (formC ds b inn c) (RtB ds inn b)
  | .mk s a l e, inn, c => by
    simp only [formC]
    split
    · rename_i h; exact .bad h _
    refine ((Good.argsS a l c).trans (expR ds e (inn ++ l) _)).mono fun _ ⟨⟨q1, q2, q3⟩, q⟩ => ?_
    simp only [RtB]
    exact ⟨q1, q2, q3, q⟩
theorem altR (ds : List Dat) : ∀ (b : Alt) (again : Bool) (inn : List ByteArray) (c : Ck), Good c (altC ds b again inn c) (RtL ds inn b)
  | .mk k a s n l e, again, inn, c => by
    simp only [altC]
    have g1 := Good.headS ds k a s l c
    have g2 : Good (headC ds k a s l c) (whenC (again = true) (headC ds k a s l c) a 30) _ := Good.when (by decide)
    refine ((g1.trans g2).trans (expR ds e (altIn k s l inn) _)).mono fun _ ⟨⟨⟨q1, q2, q3⟩, _⟩, q⟩ => ?_
    simp only [RtL]
    exact ⟨q1, q2, q3, q⟩
theorem bindsR (ds : List Dat) : ∀ (l : List Bind) (inn : List ByteArray) (c : Ck), Good c (bindsC ds l inn c) (RtBs ds inn l)
  | [], inn, c => by simp only [bindsC, RtBs]; exact Good.refl c
  | b :: l, inn, c => by
    simp only [bindsC, RtBs]
    exact (formR ds b inn c).trans (bindsR ds l inn _)
theorem kidR (ds : List Dat) : ∀ (l : List Exp) (inn : List ByteArray) (c : Ck), Good c (kidC ds l inn c) (RtKid ds inn l)
  | [], inn, c => by simp only [kidC, RtKid]; exact Good.refl c
  | e :: l, inn, c => by simp only [kidC, RtKid]; exact expR ds e inn c
theorem altsR (ds : List Dat) : ∀ (l p : List Alt) (inn : List ByteArray) (c : Ck), Good c (altsC ds p l inn c) (RtLs ds inn l)
  | [], p, inn, c => by simp only [altsC, RtLs]; exact Good.refl c
  | a :: l, p, inn, c => by
    simp only [altsC, RtLs]
    have h1 : Good c (if c.bad = true then c else altC ds a (againB p a) inn (lastC p a c)) (RtL ds inn a) := by
      split
      · rename_i h; exact .bad h _
      · exact ((Good.last a p c).trans (altR ds a (againB p a) inn _)).mono fun _ q => q.2
    exact h1.trans (altsR ds l (p ++ [a]) inn _)
end
theorem twiceS (d : Dat) : ∀ (p : List Dat) (c : Ck), Good c (twiceD p d c) (∀ x ∈ p, ¬ x.name = d.name)
  | [], c => (Good.refl c).mono fun _ _ _ h => nomatch h
  | b :: p, c => by
    have h1 : Good c (whenC (b.name = d.name) c d.at_ 30) _ := Good.when (by decide)
    refine (h1.trans (twiceS d p _)).mono fun _ ⟨q1, q2⟩ x hx => ?_
    rcases List.mem_cons.1 hx with rfl | hx
    · exact q1
    · exact q2 x hx
theorem datasS : ∀ (l p : List Dat) (c : Ck), Good c (datasC p l c) ((∀ d ∈ l, 0 ≤ d.arity ∧ d.arity ≤ 8) ∧ ((p.map Dat.name).Nodup → ((p ++ l).map Dat.name).Nodup))
  | [], p, c => (Good.refl c).mono fun _ _ => ⟨(fun _ h => nomatch h), fun h => by simpa using h⟩
  | d :: l, p, c => by
    have h1 : Good (twiceD p d c) (stepDat p d c) _ := Good.when (by decide)
    refine (((twiceS d p c).trans h1).trans (datasS l (p ++ [d]) _)).mono fun _ ⟨⟨q1, q2⟩, q3, q4⟩ => ⟨fun x hx => ?_, fun hp => ?_⟩
    · rcases List.mem_cons.1 hx with rfl | hx
      · omega
      · exact q3 x hx
    · have := q4 (by
        rw [List.map_append, List.nodup_append]
        refine ⟨hp, by simp, fun x hx y hy e => ?_⟩
        simp at hy
        subst hy
        obtain ⟨z, hz, rfl⟩ := List.mem_map.1 hx
        exact q1 z hz e)
      simpa using this
/-- A right program. -/
structure RightP (ds : List Dat) (bs : List Bind) : Prop where
  ars : ∀ d ∈ ds, 0 ≤ d.arity ∧ d.arity ≤ 8
  cons : (ds.map Dat.name).Nodup
  names : ∀ b ∈ bs, ¬ b.name = ⟨#[]⟩
  once : (bs.map Bind.name).Nodup
  main : mainB ∈ bs.map Bind.name
  forms : RtBs ds (bs.map Bind.name) bs
theorem checkR (ds : List Dat) (l : List Bind) : Good ⟨false, 0, 0⟩ (checkC ds l) (RightP ds l) := by
  unfold checkC
  have h0 := datasS ds [] ⟨false, 0, 0⟩
  have h1 := Good.dupS l [] (datasC [] ds ⟨false, 0, 0⟩)
  have h2 := bindsR ds l (l.map Bind.name) (dupC [] l (datasC [] ds ⟨false, 0, 0⟩))
  refine (((h0.trans h1).trans h2).trans (Good.when (by decide))).mono fun _ ⟨⟨⟨⟨q1, q2⟩, q3, q4⟩, q5⟩, q6⟩ => ?_
  exact ⟨q1, by simpa using q2 (by simp), q3, by simpa using q4 (by simp), hasB_iff.1 (by simpa using q6), q5⟩
theorem right_of {ds : List Dat} {l : List Bind} (h : (checkC ds l).e = 0) : RightP ds l := by
  have g := checkR ds l
  have hbad : (checkC ds l).bad = false := by
    cases e : (checkC ds l).bad with
    | false => rfl
    | true => exact absurd h (g.fine (fun h => nomatch h) e)
  exact (g.ok hbad).2
end Go.Proofs.YtoepmdbicdoieaaDoor.N
