/- In right programs only binds are free: the law. -/
import Derived.Test.YtoepmdbicdoieaaDoorKB
import Derived.Test.YtoepmdbicdoieaaDoorVA
namespace Go.Proofs.YtoepmdbicdoieaaDoor.N
open Go Go.Eng Go.Proofs Go.Proofs.YtoepmdbicdoieaaDoor.T Go.Proofs.YtoepmdbicdoieaaDoor.K
open V (lessL onceL atomsL within withinB withinL withinBs withinKid withinLs)
set_option linter.unusedSimpArgs false
set_option linter.unusedVariables false
theorem mem_lessL {l names : List ByteArray} {s : ByteArray} : s ∈ lessL l names ↔ s ∈ l ∧ ¬ s ∈ names := by
  simp only [lessL, List.mem_filter, Bool.not_eq_true', List.any_eq_false, decide_eq_true_eq]
  exact ⟨fun ⟨h1, h2⟩ => ⟨h1, fun h => h2 s h rfl⟩, fun ⟨h1, h2⟩ => ⟨h1, fun n hn e => h2 (e ▸ hn)⟩⟩
theorem once_fold (l : List ByteArray) : ∀ acc : List ByteArray, acc.Nodup → (∀ s, s ∈ l.foldl (fun out s => out ++ lessL [s] out) acc → s ∈ acc ∨ s ∈ l) ∧ (l.foldl (fun out s => out ++ lessL [s] out) acc).Nodup := by
  induction l with
  | nil => exact fun acc h => ⟨fun s h => .inl h, h⟩
  | cons x l ih =>
    intro acc h
    have hn : (acc ++ lessL [x] acc).Nodup := by
      rw [List.nodup_append]
      refine ⟨h, List.Pairwise.filter _ (by simp), fun a ha b hb e => ?_⟩
      subst e
      exact (mem_lessL.1 hb).2 ha
    obtain ⟨h1, h2⟩ := ih _ hn
    refine ⟨fun s hs => ?_, h2⟩
    rcases h1 s hs with h | h
    · rcases List.mem_append.1 h with h | h
      · exact .inl h
      · have := (mem_lessL.1 h).1
        simp at this
        exact .inr (by simp [this])
    · exact .inr (List.mem_cons_of_mem _ h)
theorem mem_onceL {l : List ByteArray} {s : ByteArray} (h : s ∈ onceL l) : s ∈ l := by
  rcases (once_fold l [] List.nodup_nil).1 s h with h | h
  · cases h
  · exact h
theorem mem_atomsL {l : List (ByteArray × Int)} {s : ByteArray} (h : s ∈ atomsL l) : ∃ x ∈ l, x.1 = s ∧ ¬ s = ⟨#[]⟩ := by
  simp only [atomsL, List.mem_flatMap] at h
  obtain ⟨a, ha, hs⟩ := h
  obtain ⟨h1, h2⟩ := mem_lessL.1 hs
  simp at h1 h2
  exact ⟨a, ha, h1.symm, h2⟩
/-! What a check that finds nothing wrong tells. -/
def fine (c : Ck) : Prop := c.bad = true → ¬ c.e = 0
structure Good (c r : Ck) (p : Prop) : Prop where
  fine : fine c → fine r
  ok : r.bad = false → c.bad = false ∧ p
theorem Good.refl (c : Ck) : Good c c True := ⟨id, fun h => ⟨h, trivial⟩⟩
theorem Good.trans {c r s : Ck} {p q : Prop} (h : Good c r p) (k : Good r s q) : Good c s (p ∧ q) := ⟨fun f => k.fine (h.fine f), fun hb => ⟨(h.ok (k.ok hb).1).1, (h.ok (k.ok hb).1).2, (k.ok hb).2⟩⟩
theorem Good.mono {c r : Ck} {p q : Prop} (h : Good c r p) (hq : c.bad = false → p → q) : Good c r q := ⟨h.fine, fun hb => ⟨(h.ok hb).1, hq (h.ok hb).1 (h.ok hb).2⟩⟩
theorem Good.fail (c : Ck) (a : Int) {e : Int} (he : ¬ e = 0) (p : Prop) : Good c (failC c a e) p := by
  unfold failC
  split
  · rename_i h; exact ⟨id, fun h' => by rw [h] at h'; cases h'⟩
  · exact ⟨fun _ _ => he, fun h' => by cases h'⟩
theorem Good.when {c : Ck} {a e : Int} {p : Prop} [Decidable p] (he : ¬ e = 0) : Good c (whenC p c a e) (¬ p) := by
  unfold whenC
  split
  · exact .fail _ _ he _
  · rename_i h; exact (Good.refl c).mono fun _ _ => h
theorem Good.atoms (a : Int) (inn : List ByteArray) : ∀ (l : List (ByteArray × Int)) (c : Ck), Good c (atomsC a inn l c) (∀ x ∈ l, ¬ x.1 = ⟨#[]⟩ → x.1 ∈ inn)
  | [], c => (Good.refl c).mono fun _ _ x hx => nomatch hx
  | x :: l, c => by
    have h1 : Good c (stepA a inn c x) _ := Good.when (by decide)
    refine (h1.trans (Good.atoms a inn l _)).mono fun _ ⟨h, k⟩ y hy hne => ?_
    rcases List.mem_cons.1 hy with rfl | hy
    · exact Classical.byContradiction fun hn => h ⟨hne, hasB_no hn⟩
    · exact k y hy hne
theorem Good.dup : ∀ (l : List Bind) (p : List ByteArray) (c : Ck), Good c (dupC p l c) True
  | [], _, c => .refl c
  | b :: l, p, c => by
    have h1 : Good c (stepD p b c) _ := Good.trans (Good.when (p := b.name = ⟨#[]⟩) (by decide)) (Good.when (p := hasB p b.name = true) (by decide))
    exact (h1.trans (Good.dup l _ _)).mono fun _ _ => trivial
theorem Good.last (a : Alt) : ∀ (p : List Alt) (c : Ck), Good c (lastC p a c) True
  | [], c => .refl c
  | b :: p, c => by
    have h1 : Good c (whenC (b.kind = 3) c a.at_ 35) _ := Good.when (by decide)
    exact (h1.trans (Good.last a p _)).mono fun _ _ => trivial
theorem Good.args (a : Int) (l : List ByteArray) (c : Ck) : Good c (argsC a l c) True := by
  unfold argsC
  split
  · exact .fail _ _ (by decide) _
  split
  · exact .fail _ _ (by decide) _
  split
  · exact .fail _ _ (by decide) _
  · exact .refl c
theorem Good.head (ds : List Dat) (k a : Int) (s : ByteArray) (l : List ByteArray) (c : Ck) : Good c (headC ds k a s l c) (k = 1 ∨ k = 2 ∨ k = 3) := by
  unfold headC
  split
  · rename_i h
    split
    · exact .fail _ _ (by decide) _
    split
    · exact .fail _ _ (by decide) _
    split
    · exact .fail _ _ (by decide) _
    split
    · exact .fail _ _ (by decide) _
    · exact (Good.refl c).mono fun _ _ => .inl h
  split
  · rename_i h; exact (Good.refl c).mono fun _ _ => .inr (.inl h)
  split
  · rename_i h; exact (Good.when (by decide)).mono fun _ _ => .inr (.inr h)
  · exact .fail _ _ (by decide) _
theorem Good.bad {c : Ck} (h : c.bad = true) (p : Prop) : Good c c p := ⟨id, fun h' => by rw [h] at h'; cases h'⟩
mutual
theorem expG (ds : List Dat) : ∀ (e : Exp) (inn : List ByteArray) (c : Ck), Good c (expC ds e inn c) (∀ s ∈ within e, s ∈ inn)
  | .mk k a s n ats bs es ls, inn, c => by
    simp only [expC]
    split
    · rename_i h; exact .bad h _
    have hat : ∀ c', Good c' (atomsC a inn ats c') (∀ s ∈ atomsL ats, s ∈ inn) := fun c' => (Good.atoms a inn ats c').mono fun _ h s hs => by
      obtain ⟨x, h1, rfl, h3⟩ := mem_atomsL hs
      exact h x h1 h3
    by_cases h1 : k = 1
    · rw [if_pos h1]
      have g1 : Good c (whenC (hasB inn s = false) c a 31) _ := Good.when (by decide)
      have g2 : Good (whenC (hasB inn s = false) c a 31) (whenC (8 < ats.length) (whenC (hasB inn s = false) c a 31) a 33) _ := Good.when (by decide)
      refine ((g1.trans g2).trans (hat _)).mono fun _ ⟨⟨q1, _⟩, q2⟩ x hx => ?_
      simp only [within] at hx
      rw [if_pos h1] at hx
      rcases List.mem_append.1 (mem_onceL hx) with hx | hx
      · have := (mem_lessL.1 hx).1
        simp at this
        subst this
        exact Classical.byContradiction fun hn => q1 (hasB_no hn)
      · exact q2 x hx
    rw [if_neg h1]
    by_cases h2 : k = 2
    · rw [if_pos h2]
      have g1 : Good c (whenC ((arityD ds s).isSome = false) c a 32) _ := Good.when (by decide)
      have g2 : Good (whenC ((arityD ds s).isSome = false) c a 32) (whenC (¬ (ats.length : Int) = (arityD ds s).getD 0) (whenC ((arityD ds s).isSome = false) c a 32) a 33) _ := Good.when (by decide)
      refine ((g1.trans g2).trans (hat _)).mono fun _ ⟨_, q2⟩ x hx => ?_
      simp only [within] at hx
      rw [if_neg h1, if_pos (.inl h2)] at hx
      exact q2 x (mem_onceL hx)
    rw [if_neg h2]
    by_cases h3 : k = 3
    · rw [if_pos h3]
      have g1 : Good c (whenC (findP s = 0) c a 34) _ := Good.when (by decide)
      have g2 : Good (whenC (findP s = 0) c a 34) (whenC (¬ (ats.length : Int) = arityP (findP s)) (whenC (findP s = 0) c a 34) a 33) _ := Good.when (by decide)
      refine ((g1.trans g2).trans (hat _)).mono fun _ ⟨_, q2⟩ x hx => ?_
      simp only [within] at hx
      rw [if_neg h1, if_pos (.inr h3)] at hx
      exact q2 x (mem_onceL hx)
    rw [if_neg h3]
    have h23 : ¬ (k = 2 ∨ k = 3) := fun h => h.elim h2 h3
    by_cases h4 : k = 4
    · rw [if_pos h4]
      refine (Good.refl c).mono fun _ _ x hx => ?_
      simp only [within] at hx
      rw [if_neg h1, if_neg h23, if_neg (by omega), if_neg (by omega)] at hx
      exact nomatch (mem_onceL hx)
    rw [if_neg h4]
    by_cases h5 : k = 5
    · rw [if_pos h5]
      split
      · exact .fail _ _ (by decide) _
      refine (((Good.dup bs [] c).trans (bindsG ds bs (inn ++ bs.map Bind.name) _)).trans (kidG ds es (inn ++ bs.map Bind.name) _)).mono fun _ ⟨⟨_, q1⟩, q2⟩ x hx => ?_
      simp only [within] at hx
      rw [if_neg h1, if_neg h23, if_pos h5] at hx
      obtain ⟨m1, m2⟩ := mem_lessL.1 (mem_onceL hx)
      have : x ∈ inn ++ bs.map Bind.name := by
        rcases List.mem_append.1 m1 with m | m
        · rw [V.withinBs_flat, List.mem_flatMap] at m
          obtain ⟨b, hb, hxb⟩ := m
          exact q1 b hb x hxb
        · exact q2 x m
      rcases List.mem_append.1 this with h | h
      · exact h
      · exact absurd h m2
    rw [if_neg h5]
    by_cases h6 : k = 6
    · rw [if_pos h6]
      split
      · exact .fail _ _ (by decide) _
      refine ((kidG ds es inn c).trans (altsG ds ls [] inn _)).mono fun _ ⟨q1, q2⟩ x hx => ?_
      simp only [within] at hx
      rw [if_neg h1, if_neg h23, if_neg h5, if_pos h6] at hx
      rcases List.mem_append.1 (mem_onceL hx) with m | m
      · exact q1 x m
      · exact q2 x m
    rw [if_neg h6]
    exact .fail _ _ (by decide) _
theorem formG (ds : List Dat) : ∀ (b : Bind) (inn : List ByteArray) (c : Ck), Good c (formC ds b inn c) (∀ s ∈ withinB b, s ∈ inn)
  | .mk s a l e, inn, c => by
    simp only [formC]
    split
    · rename_i h; exact .bad h _
    refine ((Good.args a l c).trans (expG ds e (inn ++ l) _)).mono fun _ ⟨_, q⟩ x hx => ?_
    simp only [withinB] at hx
    obtain ⟨m1, m2⟩ := mem_lessL.1 hx
    rcases List.mem_append.1 (q x m1) with h | h
    · exact h
    · exact absurd h m2
theorem altG (ds : List Dat) : ∀ (b : Alt) (again : Bool) (inn : List ByteArray) (c : Ck), Good c (altC ds b again inn c) (∀ s ∈ withinL b, s ∈ inn)
  | .mk k a s n l e, again, inn, c => by
    simp only [altC]
    have g1 := Good.head ds k a s l c
    have g2 : Good (headC ds k a s l c) (whenC (again = true) (headC ds k a s l c) a 30) _ := Good.when (by decide)
    refine ((g1.trans g2).trans (expG ds e (altIn k s l inn) _)).mono fun _ ⟨⟨q1, _⟩, q⟩ x hx => ?_
    simp only [withinL] at hx
    by_cases h1 : k = 1
    · rw [if_pos h1] at hx
      obtain ⟨m1, m2⟩ := mem_lessL.1 hx
      have := q x m1
      rw [altIn, if_pos h1] at this
      rcases List.mem_append.1 this with h | h
      · exact h
      · exact absurd h m2
    by_cases h3 : k = 3
    · rw [if_neg h1, if_pos h3] at hx
      obtain ⟨m1, m2⟩ := mem_lessL.1 hx
      have := q x m1
      rw [altIn, if_neg h1, if_pos h3] at this
      rcases List.mem_append.1 this with h | h
      · exact h
      · exact absurd h m2
    · rw [if_neg h1, if_neg h3] at hx
      have := q x hx
      rw [altIn, if_neg h1, if_neg h3] at this
      exact this
theorem bindsG (ds : List Dat) : ∀ (l : List Bind) (inn : List ByteArray) (c : Ck), Good c (bindsC ds l inn c) (∀ b ∈ l, ∀ s ∈ withinB b, s ∈ inn)
  | [], inn, c => by simp only [bindsC]; exact (Good.refl c).mono fun _ _ b hb => nomatch hb
  | b :: l, inn, c => by
    simp only [bindsC]
    refine ((formG ds b inn c).trans (bindsG ds l inn _)).mono fun _ ⟨q1, q2⟩ x hx => ?_
    rcases List.mem_cons.1 hx with rfl | hx
    · exact q1
    · exact q2 x hx
theorem kidG (ds : List Dat) : ∀ (l : List Exp) (inn : List ByteArray) (c : Ck), Good c (kidC ds l inn c) (∀ s ∈ withinKid l, s ∈ inn)
  | [], inn, c => by simp only [kidC, withinKid]; exact (Good.refl c).mono fun _ _ b hb => nomatch hb
  | e :: l, inn, c => by simp only [kidC, withinKid]; exact expG ds e inn c
theorem altsG (ds : List Dat) : ∀ (l p : List Alt) (inn : List ByteArray) (c : Ck), Good c (altsC ds p l inn c) (∀ s ∈ withinLs l, s ∈ inn)
  | [], p, inn, c => by simp only [altsC, withinLs]; exact (Good.refl c).mono fun _ _ b hb => nomatch hb
  | a :: l, p, inn, c => by
    simp only [altsC, withinLs]
    have h1 : Good c (if c.bad = true then c else altC ds a (againB p a) inn (lastC p a c)) (∀ s ∈ withinL a, s ∈ inn) := by
      split
      · rename_i h; exact .bad h _
      · exact ((Good.last a p c).trans (altG ds a (againB p a) inn _)).mono fun _ q => q.2
    refine (h1.trans (altsG ds l (p ++ [a]) inn _)).mono fun _ ⟨q1, q2⟩ x hx => ?_
    rcases List.mem_append.1 hx with hx | hx
    · exact q1 x hx
    · exact q2 x hx
end
theorem twiceG (d : Dat) : ∀ (p : List Dat) (c : Ck), Good c (twiceD p d c) True
  | [], c => .refl c
  | b :: p, c => by
    have h1 : Good c (whenC (b.name = d.name) c d.at_ 30) _ := Good.when (by decide)
    exact (h1.trans (twiceG d p _)).mono fun _ _ => trivial
theorem datasG : ∀ (l p : List Dat) (c : Ck), Good c (datasC p l c) True
  | [], _, c => .refl c
  | d :: l, p, c => by
    have h1 : Good (twiceD p d c) (stepDat p d c) _ := Good.when (by decide)
    exact (((twiceG d p c).trans h1).trans (datasG l _ _)).mono fun _ _ => trivial
theorem checkG (ds : List Dat) (l : List Bind) : Good ⟨false, 0, 0⟩ (checkC ds l) (∀ b ∈ l, ∀ s ∈ withinB b, s ∈ l.map Bind.name) := by
  unfold checkC
  have h0 := datasG ds [] ⟨false, 0, 0⟩
  have h1 := Good.dup l [] (datasC [] ds ⟨false, 0, 0⟩)
  have h2 := bindsG ds l (l.map Bind.name) (dupC [] l (datasC [] ds ⟨false, 0, 0⟩))
  exact (((h0.trans h1).trans h2).trans (Good.when (by decide))).mono fun _ h => h.1.2
theorem right_free {ds : List Dat} {l : List Bind} (h : (checkC ds l).e = 0) {b : Bind} (hb : b ∈ l) : ∀ s ∈ lessL (within b.body) b.args, s ∈ l.map Bind.name := by
  have g := checkG ds l
  have hbad : (checkC ds l).bad = false := by
    cases e : (checkC ds l).bad with
    | false => rfl
    | true => exact absurd h (g.fine (fun h => nomatch h) e)
  have := (g.ok hbad).2 b hb
  cases b
  exact this
end Go.Proofs.YtoepmdbicdoieaaDoor.N
