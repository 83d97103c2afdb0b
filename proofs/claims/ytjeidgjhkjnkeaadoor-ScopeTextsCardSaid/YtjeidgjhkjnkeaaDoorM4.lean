/- A bind more: the law. -/
import Derived.Test.YtjeidgjhkjnkeaaDoorM1
namespace Go.Proofs.YtjeidgjhkjnkeaaDoor.M
open Go Go.Eng Go.Proofs Go.Proofs.YtjeidgjhkjnkeaaDoor.T Go.Proofs.YtjeidgjhkjnkeaaDoor.K
open Go.Proofs.YtjeidgjhkjnkeaaDoor.P (whenC_bad datasC_bad dupC_bad bindsC_bad dupC_append)
set_option linter.unusedSimpArgs false
set_option linter.unusedVariables false
set_option maxRecDepth 100000
set_option maxHeartbeats 1000000
/-! What is not bad was left as it was. -/
def Stay (c r : Ck) : Prop := r.bad = false → r = c
theorem Stay.refl (c : Ck) : Stay c c := fun _ => rfl
theorem Stay.trans {c r s : Ck} (h : Stay c r) (k : Stay r s) : Stay c s := fun hs => by
  have e := k hs
  subst e
  exact h hs
theorem Stay.fail (c : Ck) (a e : Int) : Stay c (failC c a e) := fun h => by
  unfold failC at h ⊢
  split
  · rfl
  · rename_i hb; rw [if_neg hb] at h; cases h
theorem Stay.when {p : Prop} [Decidable p] (c : Ck) (a e : Int) : Stay c (whenC p c a e) := by
  unfold whenC; split
  · exact .fail c a e
  · exact .refl c
theorem Stay.foldl {α : Type} (f : Ck → α → Ck) (hf : ∀ c x, Stay c (f c x)) : ∀ (l : List α) (c : Ck), Stay c (l.foldl f c)
  | [], c => .refl c
  | x :: l, c => (hf c x).trans (Stay.foldl f hf l _)
theorem Stay.atoms (a : Int) (inn : List ByteArray) (l : List (ByteArray × Int)) (c : Ck) : Stay c (atomsC a inn l c) := Stay.foldl _ (fun _ _ => .when _ _ _) l c
theorem Stay.last (p : List Alt) (a : Alt) (c : Ck) : Stay c (lastC p a c) := Stay.foldl _ (fun _ _ => .when _ _ _) p c
theorem Stay.dup : ∀ (l : List Bind) (p : List ByteArray) (c : Ck), Stay c (dupC p l c)
  | [], p, c => .refl c
  | b :: l, p, c => ((Stay.when (p := b.name = ⟨#[]⟩) c b.at_ 31).trans (Stay.when (p := hasB p b.name = true) _ b.at_ 30)).trans (Stay.dup l _ _)
theorem Stay.datas : ∀ (l p : List Dat) (c : Ck), Stay c (datasC p l c)
  | [], p, c => .refl c
  | d :: l, p, c => ((Stay.foldl (fun (c : Ck) (x : Dat) => whenC (x.name = d.name) c d.at_ 30) (fun _ _ => .when _ _ _) p c).trans (Stay.when (p := d.arity < 0 ∨ 8 < d.arity) _ d.at_ 33)).trans (Stay.datas l _ _)
theorem Stay.args (a : Int) (l : List ByteArray) (c : Ck) : Stay c (argsC a l c) := by
  unfold argsC
  split
  · exact .fail _ _ _
  split
  · exact .fail _ _ _
  split
  · exact .fail _ _ _
  · exact .refl c
theorem Stay.head (ds : List Dat) (k a : Int) (s : ByteArray) (l : List ByteArray) (c : Ck) : Stay c (headC ds k a s l c) := by
  unfold headC
  split
  · split
    · exact .fail _ _ _
    split
    · exact .fail _ _ _
    split
    · exact .fail _ _ _
    split
    · exact .fail _ _ _
    · exact .refl c
  split
  · exact .refl c
  split
  · exact .when _ _ _
  · exact .fail _ _ _
mutual
theorem expS (ds : List Dat) : ∀ (e : Exp) (inn : List ByteArray) (c : Ck), Stay c (expC ds e inn c)
  | .mk k a s n ats bs es ls, inn, c => by
    simp only [expC]
    split
    · exact .refl c
    split
    · exact ((Stay.when _ _ _).trans (.when _ _ _)).trans (.atoms _ _ _ _)
    split
    · exact ((Stay.when _ _ _).trans (.when _ _ _)).trans (.atoms _ _ _ _)
    split
    · exact ((Stay.when _ _ _).trans (.when _ _ _)).trans (.atoms _ _ _ _)
    split
    · exact .refl c
    split
    · split
      · exact .fail _ _ _
      · exact ((Stay.dup bs [] c).trans (bindsS ds bs _ _)).trans (kidS ds es _ _)
    split
    · split
      · exact .fail _ _ _
      · exact (kidS ds es inn c).trans (altsS ds ls [] inn _)
    · exact .fail _ _ _
theorem formS (ds : List Dat) : ∀ (b : Bind) (inn : List ByteArray) (c : Ck), Stay c (formC ds b inn c)
  | .mk s a l e, inn, c => by
    simp only [formC]
    split
    · exact .refl c
    · exact (Stay.args a l c).trans (expS ds e _ _)
theorem altS (ds : List Dat) : ∀ (b : Alt) (again : Bool) (inn : List ByteArray) (c : Ck), Stay c (altC ds b again inn c)
  | .mk k a s n l e, again, inn, c => by
    simp only [altC]
    exact ((Stay.head ds k a s l c).trans (.when _ _ _)).trans (expS ds e _ _)
theorem bindsS (ds : List Dat) : ∀ (l : List Bind) (inn : List ByteArray) (c : Ck), Stay c (bindsC ds l inn c)
  | [], inn, c => by simp only [bindsC]; exact .refl c
  | b :: l, inn, c => by simp only [bindsC]; exact (formS ds b inn c).trans (bindsS ds l inn _)
theorem kidS (ds : List Dat) : ∀ (l : List Exp) (inn : List ByteArray) (c : Ck), Stay c (kidC ds l inn c)
  | [], inn, c => by simp only [kidC]; exact .refl c
  | e :: l, inn, c => by simp only [kidC]; exact expS ds e inn c
theorem altsS (ds : List Dat) : ∀ (l p : List Alt) (inn : List ByteArray) (c : Ck), Stay c (altsC ds p l inn c)
  | [], p, inn, c => by simp only [altsC]; exact .refl c
  | a :: l, p, inn, c => by
    simp only [altsC]
    have h1 : Stay c (if c.bad = true then c else altC ds a (againB p a) inn (lastC p a c)) := by
      split
      · exact .refl c
      · exact (Stay.last p a c).trans (altS ds a _ inn _)
    exact h1.trans (altsS ds l (p ++ [a]) inn _)
end
/-! More names in the scope: what is not bad stays so. -/
def Sub (inn inn' : List ByteArray) : Prop := ∀ s, hasB inn s = true → hasB inn' s = true
theorem Sub.append {inn inn' : List ByteArray} (h : Sub inn inn') (l : List ByteArray) : Sub (inn ++ l) (inn' ++ l) := fun s hs => by
  rw [P.hasB_append, Bool.or_eq_true] at hs ⊢
  exact hs.imp (h s) id
/-- From the same state on: if the first is not bad, the second is the same. -/
def Up (r r' : Ck) : Prop := r.bad = false → r' = r
theorem up_when {p q : Prop} [Decidable p] [Decidable q] (h : q → p) (c : Ck) (a e : Int) : Up (whenC p c a e) (whenC q c a e) := fun hb => by
  by_cases hq : q
  · simp only [whenC, if_pos hq, if_pos (h hq)]
  · by_cases hp : p
    · have := Stay.fail c a e (by simpa [whenC, hp] using hb)
      simp only [whenC, if_neg hq, if_pos hp]
      exact this.symm
    · simp only [whenC, if_neg hq, if_neg hp]
theorem up_atoms {a : Int} {inn inn' : List ByteArray} (h : Sub inn inn') : ∀ (l : List (ByteArray × Int)) (c : Ck), Up (atomsC a inn l c) (atomsC a inn' l c)
  | [], c => fun _ => rfl
  | x :: l, c => fun hb => by
    have hb' : (atomsC a inn l (stepA a inn c x)).bad = false := hb
    show atomsC a inn' l (stepA a inn' c x) = atomsC a inn l (stepA a inn c x)
    have e1 := Stay.atoms a inn l (stepA a inn c x) hb'
    have hb2 : (stepA a inn c x).bad = false := by rw [← e1]; exact hb'
    have e2 : stepA a inn' c x = stepA a inn c x := up_when (p := ¬ x.1 = ⟨#[]⟩ ∧ hasB inn x.1 = false) (q := ¬ x.1 = ⟨#[]⟩ ∧ hasB inn' x.1 = false) (fun ⟨h1, h2⟩ => ⟨h1, Bool.eq_false_iff.2 fun h3 => by rw [h _ h3] at h2; cases h2⟩) c a 31 hb2
    rw [e2]
    exact up_atoms h l _ hb'
theorem altIn_sub {inn inn' : List ByteArray} (h : Sub inn inn') (k : Int) (s : ByteArray) (l : List ByteArray) : Sub (altIn k s l inn) (altIn k s l inn') := by
  unfold altIn
  split
  · exact h.append l
  split
  · exact h.append [s]
  · exact h
mutual
theorem expU (ds : List Dat) : ∀ (e : Exp) (inn inn' : List ByteArray) (c : Ck), Sub inn inn' → Up (expC ds e inn c) (expC ds e inn' c)
  | .mk k a s n ats bs es ls, inn, inn', c, h => fun hb => by
    simp only [expC] at hb ⊢
    by_cases h0 : c.bad = true
    · rw [if_pos h0, if_pos h0]
    rw [if_neg h0] at hb ⊢
    rw [if_neg h0]
    by_cases h1 : k = 1
    · rw [if_pos h1] at hb ⊢
      rw [if_pos h1]
      have e1 := Stay.atoms a inn ats _ hb
      have hb1 : (whenC (8 < ats.length) (whenC (hasB inn s = false) c a 31) a 33).bad = false := by rw [← e1]; exact hb
      have e2 := Stay.when (p := 8 < ats.length) (whenC (hasB inn s = false) c a 31) a 33 hb1
      have hb2 : (whenC (hasB inn s = false) c a 31).bad = false := by rw [← e2]; exact hb1
      have e3 : whenC (hasB inn' s = false) c a 31 = whenC (hasB inn s = false) c a 31 := up_when (fun h2 => Bool.eq_false_iff.2 fun h3 => by rw [h _ h3] at h2; cases h2) c a 31 hb2
      rw [e3]
      exact up_atoms h ats _ hb
    rw [if_neg h1] at hb ⊢
    rw [if_neg h1]
    by_cases h2 : k = 2
    · rw [if_pos h2] at hb ⊢
      rw [if_pos h2]
      exact up_atoms h ats _ hb
    rw [if_neg h2] at hb ⊢
    rw [if_neg h2]
    by_cases h3 : k = 3
    · rw [if_pos h3] at hb ⊢
      rw [if_pos h3]
      exact up_atoms h ats _ hb
    rw [if_neg h3] at hb ⊢
    rw [if_neg h3]
    by_cases h4 : k = 4
    · rw [if_pos h4, if_pos h4]
    rw [if_neg h4] at hb ⊢
    rw [if_neg h4]
    by_cases h5 : k = 5
    · rw [if_pos h5] at hb ⊢
      rw [if_pos h5]
      by_cases h6 : bs.length = 0 ∨ es.length = 0
      · rw [if_pos h6, if_pos h6]
      rw [if_neg h6] at hb ⊢
      rw [if_neg h6]
      have e1 := kidS ds es _ _ hb
      have hb1 : (bindsC ds bs (inn ++ bs.map Bind.name) (dupC [] bs c)).bad = false := by rw [← e1]; exact hb
      have e2 := bindsU ds bs _ _ (dupC [] bs c) (h.append (bs.map Bind.name)) hb1
      rw [e2]
      exact kidU ds es _ _ _ (h.append (bs.map Bind.name)) hb
    rw [if_neg h5] at hb ⊢
    rw [if_neg h5]
    by_cases h6 : k = 6
    · rw [if_pos h6] at hb ⊢
      rw [if_pos h6]
      by_cases h7 : es.length = 0 ∨ ls.length = 0
      · rw [if_pos h7, if_pos h7]
      rw [if_neg h7] at hb ⊢
      rw [if_neg h7]
      have e1 := altsS ds ls [] inn _ hb
      have hb1 : (kidC ds es inn c).bad = false := by rw [← e1]; exact hb
      have e2 := kidU ds es inn inn' c h hb1
      rw [e2]
      exact altsU ds ls [] inn inn' _ h hb
    rw [if_neg h6, if_neg h6]
theorem formU (ds : List Dat) : ∀ (b : Bind) (inn inn' : List ByteArray) (c : Ck), Sub inn inn' → Up (formC ds b inn c) (formC ds b inn' c)
  | .mk s a l e, inn, inn', c, h => fun hb => by
    simp only [formC] at hb ⊢
    by_cases h0 : c.bad = true
    · rw [if_pos h0, if_pos h0]
    rw [if_neg h0] at hb ⊢
    rw [if_neg h0]
    exact expU ds e _ _ _ (h.append l) hb
theorem altU (ds : List Dat) : ∀ (b : Alt) (again : Bool) (inn inn' : List ByteArray) (c : Ck), Sub inn inn' → Up (altC ds b again inn c) (altC ds b again inn' c)
  | .mk k a s n l e, again, inn, inn', c, h => fun hb => by
    simp only [altC] at hb ⊢
    exact expU ds e _ _ _ (altIn_sub h k s l) hb
theorem bindsU (ds : List Dat) : ∀ (l : List Bind) (inn inn' : List ByteArray) (c : Ck), Sub inn inn' → Up (bindsC ds l inn c) (bindsC ds l inn' c)
  | [], inn, inn', c, h => fun _ => by simp only [bindsC]
  | b :: l, inn, inn', c, h => fun hb => by
    simp only [bindsC] at hb ⊢
    have e1 := bindsS ds l inn _ hb
    have hb1 : (formC ds b inn c).bad = false := by rw [← e1]; exact hb
    rw [formU ds b inn inn' c h hb1]
    exact bindsU ds l inn inn' _ h hb
theorem kidU (ds : List Dat) : ∀ (l : List Exp) (inn inn' : List ByteArray) (c : Ck), Sub inn inn' → Up (kidC ds l inn c) (kidC ds l inn' c)
  | [], inn, inn', c, h => fun _ => by simp only [kidC]
  | e :: l, inn, inn', c, h => fun hb => by
    simp only [kidC] at hb ⊢
    exact expU ds e inn inn' c h hb
theorem altsU (ds : List Dat) : ∀ (l p : List Alt) (inn inn' : List ByteArray) (c : Ck), Sub inn inn' → Up (altsC ds p l inn c) (altsC ds p l inn' c)
  | [], p, inn, inn', c, h => fun _ => by simp only [altsC]
  | a :: l, p, inn, inn', c, h => fun hb => by
    rw [altsC_cons] at hb ⊢
    rw [altsC_cons]
    have e1 := altsS ds l (p ++ [a]) inn _ hb
    have hb1 : (altStep ds p a inn c).bad = false := by rw [← e1]; exact hb
    have e2 : altStep ds p a inn' c = altStep ds p a inn c := by
      unfold altStep at hb1 ⊢
      by_cases h0 : c.bad = true
      · rw [if_pos h0, if_pos h0]
      rw [if_neg h0] at hb1 ⊢
      rw [if_neg h0]
      exact altU ds a _ inn inn' _ h hb1
    rw [e2]
    exact altsU ds l (p ++ [a]) inn inn' _ h hb
end
def xB : ByteArray := bs [120]
def moreB (name : ByteArray) : Bind := .mk name 12345 [xB] (.mk 1 0 xB 0 [(name, 0)] [] [] [])
theorem fineE : ∀ {c : Ck}, (c = ⟨false, 0, 0⟩ ∨ ¬ c.e = 0) → c.e = 0 → c = ⟨false, 0, 0⟩ := fun h h0 => h.elim id fun h1 => absurd h0 h1
/-- No fault bears the number 0. -/
def Num (c : Ck) : Prop := c.bad = true → ¬ c.e = 0
theorem Num.fail {c : Ck} {a e : Int} (h : Num c) (he : ¬ e = 0) : Num (failC c a e) := by
  unfold failC; split
  · exact h
  · exact fun _ => he
theorem Num.when {p : Prop} [Decidable p] {c : Ck} {a e : Int} (h : Num c) (he : ¬ e = 0) : Num (whenC p c a e) := by
  unfold whenC; split
  · exact h.fail he
  · exact h
theorem Num.foldl {α : Type} (f : Ck → α → Ck) (hf : ∀ c x, Num c → Num (f c x)) : ∀ (l : List α) (c : Ck), Num c → Num (l.foldl f c)
  | [], c, h => h
  | x :: l, c, h => Num.foldl f hf l _ (hf c x h)
theorem Num.atoms {a : Int} {inn : List ByteArray} {l : List (ByteArray × Int)} {c : Ck} (h : Num c) : Num (atomsC a inn l c) := Num.foldl _ (fun _ _ h => h.when (by decide)) l c h
theorem Num.last {p : List Alt} {a : Alt} {c : Ck} (h : Num c) : Num (lastC p a c) := Num.foldl _ (fun _ _ h => h.when (by decide)) p c h
theorem Num.dup : ∀ (l : List Bind) (p : List ByteArray) (c : Ck), Num c → Num (dupC p l c)
  | [], p, c, h => h
  | b :: l, p, c, h => Num.dup l _ _ ((h.when (by decide)).when (by decide))
theorem Num.datas : ∀ (l p : List Dat) (c : Ck), Num c → Num (datasC p l c)
  | [], p, c, h => h
  | d :: l, p, c, h => Num.datas l _ _ ((Num.foldl (fun (c : Ck) (x : Dat) => whenC (x.name = d.name) c d.at_ 30) (fun _ _ h => h.when (by decide)) p c h).when (by decide))
theorem Num.args {a : Int} {l : List ByteArray} {c : Ck} (h : Num c) : Num (argsC a l c) := by
  unfold argsC
  split
  · exact h.fail (by decide)
  split
  · exact h.fail (by decide)
  split
  · exact h.fail (by decide)
  · exact h
theorem Num.head {ds : List Dat} {k a : Int} {s : ByteArray} {l : List ByteArray} {c : Ck} (h : Num c) : Num (headC ds k a s l c) := by
  unfold headC
  split
  · split
    · exact h.fail (by decide)
    split
    · exact h.fail (by decide)
    split
    · exact h.fail (by decide)
    split
    · exact h.fail (by decide)
    · exact h
  split
  · exact h
  split
  · exact h.when (by decide)
  · exact h.fail (by decide)
mutual
theorem expN (ds : List Dat) : ∀ (e : Exp) (inn : List ByteArray) (c : Ck), Num c → Num (expC ds e inn c)
  | .mk k a s n ats bs es ls, inn, c, h => by
    simp only [expC]
    split
    · exact h
    split
    · exact ((h.when (by decide)).when (by decide)).atoms
    split
    · exact ((h.when (by decide)).when (by decide)).atoms
    split
    · exact ((h.when (by decide)).when (by decide)).atoms
    split
    · exact h
    split
    · split
      · exact h.fail (by decide)
      · exact kidN ds es _ _ (bindsN ds bs _ _ (Num.dup bs [] c h))
    split
    · split
      · exact h.fail (by decide)
      · exact altsN ds ls [] inn _ (kidN ds es inn c h)
    · exact h.fail (by decide)
theorem formN (ds : List Dat) : ∀ (b : Bind) (inn : List ByteArray) (c : Ck), Num c → Num (formC ds b inn c)
  | .mk s a l e, inn, c, h => by
    simp only [formC]
    split
    · exact h
    · exact expN ds e _ _ h.args
theorem altN (ds : List Dat) : ∀ (b : Alt) (again : Bool) (inn : List ByteArray) (c : Ck), Num c → Num (altC ds b again inn c)
  | .mk k a s n l e, again, inn, c, h => by
    simp only [altC]
    exact expN ds e _ _ (h.head.when (by decide))
theorem bindsN (ds : List Dat) : ∀ (l : List Bind) (inn : List ByteArray) (c : Ck), Num c → Num (bindsC ds l inn c)
  | [], inn, c, h => by simp only [bindsC]; exact h
  | b :: l, inn, c, h => by simp only [bindsC]; exact bindsN ds l inn _ (formN ds b inn c h)
theorem kidN (ds : List Dat) : ∀ (l : List Exp) (inn : List ByteArray) (c : Ck), Num c → Num (kidC ds l inn c)
  | [], inn, c, h => by simp only [kidC]; exact h
  | e :: l, inn, c, h => by simp only [kidC]; exact expN ds e inn c h
theorem altsN (ds : List Dat) : ∀ (l p : List Alt) (inn : List ByteArray) (c : Ck), Num c → Num (altsC ds p l inn c)
  | [], p, inn, c, h => by simp only [altsC]; exact h
  | a :: l, p, inn, c, h => by
    simp only [altsC]
    refine altsN ds l (p ++ [a]) inn _ ?_
    split
    · exact h
    · exact altN ds a _ inn _ h.last
end
theorem checkN (ds : List Dat) (l : List Bind) : Num (checkC ds l) := by
  unfold checkC
  exact (bindsN ds l _ _ (Num.dup l [] _ (Num.datas ds [] _ (fun h => absurd h Bool.false_ne_true)))).when (by decide)
theorem more_law {ds : List Dat} {l : List Bind} (h : (checkC ds l).e = 0) (name : ByteArray) :
    (checkC ds l).at_ = 0 ∧ checkC ds (l ++ [moreB name]) = if name = ⟨#[]⟩ then ⟨true, 12345, 31⟩ else if hasB (l.map Bind.name) name = true then ⟨true, 12345, 30⟩ else ⟨false, 0, 0⟩ := by
  have hbad : (checkC ds l).bad = false := Bool.eq_false_iff.2 fun hb => checkN ds l hb h
  have s0 := Stay.datas ds [] ⟨false, 0, 0⟩
  have s1 := Stay.dup l [] (datasC [] ds ⟨false, 0, 0⟩)
  have s2 := bindsS ds l (l.map Bind.name) (dupC [] l (datasC [] ds ⟨false, 0, 0⟩))
  have s3 := Stay.when (p := hasB (l.map Bind.name) mainB = false) (bindsC ds l (l.map Bind.name) (dupC [] l (datasC [] ds ⟨false, 0, 0⟩))) 0 36
  have e3 := s3 hbad
  have b2 : (bindsC ds l (l.map Bind.name) (dupC [] l (datasC [] ds ⟨false, 0, 0⟩))).bad = false := by rw [← e3]; exact hbad
  have e2 := s2 b2
  have b1 : (dupC [] l (datasC [] ds ⟨false, 0, 0⟩)).bad = false := by rw [← e2]; exact b2
  have e1 := s1 b1
  have b0 : (datasC [] ds ⟨false, 0, 0⟩).bad = false := by rw [← e1]; exact b1
  have e0 := s0 b0
  rw [e0] at e1
  rw [e0, e1] at e2
  have hall : checkC ds l = ⟨false, 0, 0⟩ := by
    have : checkC ds l = bindsC ds l (l.map Bind.name) (dupC [] l (datasC [] ds ⟨false, 0, 0⟩)) := e3
    rw [this, e0, e1, e2]
  have hmain : hasB (l.map Bind.name) mainB = true := by
    cases hm : hasB (l.map Bind.name) mainB with
    | true => rfl
    | false =>
      have : checkC ds l = failC (bindsC ds l (l.map Bind.name) (dupC [] l (datasC [] ds ⟨false, 0, 0⟩))) 0 36 := by unfold checkC; rw [whenC, if_pos hm]
      rw [this, e0, e1, e2] at hall
      cases hall
  refine ⟨by rw [hall], ?_⟩
  unfold checkC
  rw [e0, dupC_append, e1]
  have hd : dupC ([] ++ l.map Bind.name) [moreB name] ⟨false, 0, 0⟩ = whenC (hasB (l.map Bind.name) name = true) (whenC (name = ⟨#[]⟩) ⟨false, 0, 0⟩ 12345 31) 12345 30 := rfl
  rw [hd]
  by_cases g1 : name = ⟨#[]⟩
  · rw [if_pos g1, show whenC (name = ⟨#[]⟩) ⟨false, 0, 0⟩ 12345 31 = ⟨true, 12345, 31⟩ from by rw [whenC, if_pos g1]; rfl, whenC_bad (c := ⟨true, 12345, 31⟩) rfl, bindsC_bad _ _ _ _ rfl, whenC_bad rfl]
  rw [if_neg g1, show whenC (name = ⟨#[]⟩) ⟨false, 0, 0⟩ 12345 31 = ⟨false, 0, 0⟩ from by rw [whenC, if_neg g1]]
  by_cases g2 : hasB (l.map Bind.name) name = true
  · rw [if_pos g2, show whenC (hasB (l.map Bind.name) name = true) ⟨false, 0, 0⟩ 12345 30 = ⟨true, 12345, 30⟩ from by rw [whenC, if_pos g2]; rfl, bindsC_bad _ _ _ _ rfl, whenC_bad rfl]
  rw [if_neg g2, show whenC (hasB (l.map Bind.name) name = true) ⟨false, 0, 0⟩ 12345 30 = ⟨false, 0, 0⟩ from by rw [whenC, if_neg g2]]
  have hsub : Sub (l.map Bind.name) ((l ++ [moreB name]).map Bind.name) := fun s hs => by rw [List.map_append, P.hasB_append, hs]; rfl
  have hname : hasB ((l ++ [moreB name]).map Bind.name) name = true := by rw [List.map_append, P.hasB_append, Bool.or_eq_true]; right; simp [moreB, Bind.name, hasB]
  have hmain2 := hsub _ hmain
  generalize (l ++ [moreB name]).map Bind.name = inn' at hsub hname hmain2 ⊢
  rw [bindsC_snoc, bindsU ds l _ inn' _ hsub (by rw [e2]), e2]
  have hf : formC ds (moreB name) inn' ⟨false, 0, 0⟩ = ⟨false, 0, 0⟩ := by
    have ha : argsC 12345 [xB] ⟨false, 0, 0⟩ = ⟨false, 0, 0⟩ := by
      unfold argsC
      rw [if_neg (by decide), if_neg (by decide +kernel), if_neg (by decide)]
    have hx : hasB (inn' ++ [xB]) xB = true := by rw [P.hasB_append, Bool.or_eq_true]; right; simp [hasB]
    have hn : hasB (inn' ++ [xB]) name = true := by rw [P.hasB_append, hname]; rfl
    simp only [moreB, formC, expC, Bool.false_eq_true, if_false, ha, if_true, hx]
    simp [whenC, atomsC, stepA, hx, hn]
  rw [hf, whenC, if_neg (by rw [hmain2]; simp)]
end Go.Proofs.YtjeidgjhkjnkeaaDoor.M
