/- Names that are turned into others: the law. -/
import Derived.Test.YtoepmdbicdoieaaDoorN4
namespace Go.Proofs.YtoepmdbicdoieaaDoor.M
open Go Go.Eng Go.Proofs Go.Proofs.YtoepmdbicdoieaaDoor.T Go.Proofs.YtoepmdbicdoieaaDoor.K
open Go.Proofs.YtoepmdbicdoieaaDoor.P (whenC_bad)
set_option linter.unusedSimpArgs false
set_option linter.unusedVariables false
set_option maxRecDepth 100000
set_option maxHeartbeats 1000000
def turn (s : ByteArray) : ByteArray := if s = mainB ∨ s = ⟨#[]⟩ then s else bs [113] ++ s
mutual
def turnE : Exp → Exp
  | .mk k a s n ats bs es ls => .mk k a (if k = 1 then turn s else s) n (ats.map fun x => (turn x.1, x.2)) (turnBs bs) (turnEs es) (turnLs ls)
def turnB : Bind → Bind
  | .mk s a l e => .mk (turn s) a (l.map turn) (turnE e)
def turnL : Alt → Alt
  | .mk k a s n l e => .mk k a (if k = 3 then turn s else s) n (l.map turn) (turnE e)
def turnEs : List Exp → List Exp
  | [] => []
  | e :: l => turnE e :: turnEs l
def turnBs : List Bind → List Bind
  | [] => []
  | e :: l => turnB e :: turnBs l
def turnLs : List Alt → List Alt
  | [] => []
  | e :: l => turnL e :: turnLs l
end
theorem turnEs_map : ∀ l, turnEs l = l.map turnE
  | [] => rfl
  | e :: l => by simp [turnEs, turnEs_map l]
theorem turnBs_map : ∀ l, turnBs l = l.map turnB
  | [] => rfl
  | e :: l => by simp [turnBs, turnBs_map l]
theorem turnLs_map : ∀ l, turnLs l = l.map turnL
  | [] => rfl
  | e :: l => by simp [turnLs, turnLs_map l]
theorem size_turned (s : ByteArray) : (bs [113] ++ s).size = s.size + 1 := by rw [ByteArray.size_append]; have : (bs [113]).size = 1 := rfl; omega
theorem list_turned (s : ByteArray) : (bs [113] ++ s).data.toList = 113 :: s.data.toList := by rw [ByteArray.data_append, Array.toList_append]; rfl
theorem last_turned (s t : ByteArray) (h : bs [113] ++ s = bs [113] ++ t) : s = t := by
  have h1 := congrArg (fun x : ByteArray => x.data.toList) h
  simp only [list_turned] at h1
  have h2 := Array.toList_inj.1 (List.cons.inj h1).2
  cases s; cases t; exact congrArg ByteArray.mk h2
theorem turned_ne (s t : ByteArray) (ht : t = mainB ∨ t = ⟨#[]⟩) : ¬ bs [113] ++ s = t := by
  intro h
  have h1 := congrArg (fun x : ByteArray => x.data.toList) h
  simp only [list_turned] at h1
  rcases ht with rfl | rfl
  · have h2 : mainB.data.toList = [109, 97, 105, 110] := rfl
    rw [h2] at h1
    exact absurd (List.cons.inj h1).1 (by decide)
  · exact nomatch h1
theorem turn_inj {s t : ByteArray} : turn s = turn t ↔ s = t := by
  constructor
  · intro h
    unfold turn at h
    split at h
    · rename_i hs
      split at h
      · exact h
      · exact absurd h.symm (turned_ne t s hs)
    · split at h
      · rename_i ht; exact absurd h (turned_ne s t ht)
      · exact last_turned s t h
  · rintro rfl; rfl
theorem turn_main : turn mainB = mainB := if_pos (.inl rfl)
theorem turn_nil : turn ⟨#[]⟩ = ⟨#[]⟩ := if_pos (.inr rfl)
theorem turn_eq_nil {s : ByteArray} : turn s = ⟨#[]⟩ ↔ s = ⟨#[]⟩ := ⟨fun h => turn_inj.1 (h.trans turn_nil.symm), fun h => by rw [h, turn_nil]⟩
theorem has_turn (l : List ByteArray) (s : ByteArray) : hasB (l.map turn) (turn s) = hasB l s := by
  unfold hasB
  rw [List.any_map]
  congr 1
  funext n
  exact decide_eq_decide.2 turn_inj
theorem has_nil (l : List ByteArray) : hasB (l.map turn) ⟨#[]⟩ = hasB l ⟨#[]⟩ := by
  have := has_turn l ⟨#[]⟩
  rwa [turn_nil] at this
theorem twice_turn : ∀ (l p : List ByteArray), twiceB (p.map turn) (l.map turn) = twiceB p l
  | [], p => rfl
  | s :: l, p => by
    simp only [List.map_cons, twiceB, has_turn]
    rw [← twice_turn l (p ++ [s])]
    simp
theorem name_turn (b : Bind) : (turnB b).name = turn b.name := by cases b; rfl
theorem at_turn (b : Bind) : (turnB b).at_ = b.at_ := by cases b; rfl
theorem names_turn (l : List Bind) : (l.map turnB).map Bind.name = (l.map Bind.name).map turn := by
  simp [List.map_map, Function.comp_def, name_turn]
theorem when_iff {p q : Prop} [Decidable p] [Decidable q] (h : p ↔ q) (c : Ck) (a e : Int) : whenC p c a e = whenC q c a e := P.whenC_congr h
theorem atoms_turn (a : Int) (inn : List ByteArray) : ∀ (l : List (ByteArray × Int)) (c : Ck), atomsC a (inn.map turn) (l.map fun x => (turn x.1, x.2)) c = atomsC a inn l c
  | [], c => rfl
  | x :: l, c => by
    show atomsC a (inn.map turn) (l.map fun x => (turn x.1, x.2)) (stepA a (inn.map turn) c (turn x.1, x.2)) = atomsC a inn l (stepA a inn c x)
    rw [show stepA a (inn.map turn) c (turn x.1, x.2) = stepA a inn c x from by
      unfold stepA
      simp only [has_turn]
      exact when_iff (by rw [turn_eq_nil]) _ _ _]
    exact atoms_turn a inn l _
theorem dup_turn : ∀ (l : List Bind) (p : List ByteArray) (c : Ck), dupC (p.map turn) (l.map turnB) c = dupC p l c
  | [], p, c => rfl
  | b :: l, p, c => by
    simp only [List.map_cons, dupC]
    rw [show stepD (p.map turn) (turnB b) c = stepD p b c from by
      unfold stepD
      simp only [name_turn, at_turn, has_turn]
      rw [when_iff (turn_eq_nil (s := b.name))]]
    rw [name_turn, ← dup_turn l (p ++ [b.name])]
    simp
theorem kind_turn (a : Alt) : (turnL a).kind = a.kind := by cases a; rfl
theorem lat_turn (a : Alt) : (turnL a).at_ = a.at_ := by cases a; rfl
theorem n_turn (a : Alt) : (turnL a).n = a.n := by cases a; rfl
theorem lname_turn (a : Alt) : (turnL a).name = if a.kind = 3 then turn a.name else a.name := by cases a; rfl
theorem last_turn (a : Alt) : ∀ (p : List Alt) (c : Ck), lastC (p.map turnL) (turnL a) c = lastC p a c
  | [], c => rfl
  | b :: p, c => by
    show lastC (p.map turnL) (turnL a) (whenC ((turnL b).kind = 3) c (turnL a).at_ 35) = lastC p a (whenC (b.kind = 3) c a.at_ 35)
    rw [when_iff (show (turnL b).kind = 3 ↔ b.kind = 3 by rw [kind_turn]), lat_turn]
    exact last_turn a p _
theorem again_fold (a : Alt) : ∀ (p : List Alt) (r : Bool), (p.map turnL).foldl (fun r b => r || (decide ((turnL a).kind = 1) && decide (b.kind = 1) && decide ((turnL a).name = b.name)) || (decide ((turnL a).kind = 2) && decide (b.kind = 2) && decide ((turnL a).n = b.n))) r = p.foldl (fun r b => r || (decide (a.kind = 1) && decide (b.kind = 1) && decide (a.name = b.name)) || (decide (a.kind = 2) && decide (b.kind = 2) && decide (a.n = b.n))) r
  | [], r => rfl
  | b :: p, r => by
    simp only [List.map_cons, List.foldl_cons]
    rw [again_fold a p]
    congr 2
    · congr 1
      simp only [kind_turn, lname_turn]
      by_cases h1 : a.kind = 1
      · by_cases h2 : b.kind = 1
        · simp [h1, h2]
        · simp [h2]
      · simp [h1]
    · simp only [kind_turn, n_turn]
theorem again_turn (p : List Alt) (a : Alt) : againB (p.map turnL) (turnL a) = againB p a := again_fold a p false
theorem args_turn (a : Int) (l : List ByteArray) (c : Ck) : argsC a (l.map turn) c = argsC a l c := by
  unfold argsC
  rw [List.length_map, has_nil, show twiceB [] (l.map turn) = twiceB [] l from twice_turn l []]
theorem head_turn (ds : List Dat) (k a : Int) (s : ByteArray) (l : List ByteArray) (c : Ck) : headC ds k a (if k = 3 then turn s else s) (l.map turn) c = headC ds k a s l c := by
  unfold headC
  by_cases h1 : k = 1
  · rw [if_pos h1, if_pos h1, if_neg (show ¬ k = 3 by omega)]
    simp only [List.length_map, has_nil, show twiceB [] (l.map turn) = twiceB [] l from twice_turn l []]
  rw [if_neg h1, if_neg h1]
  by_cases h2 : k = 2
  · rw [if_pos h2, if_pos h2]
  rw [if_neg h2, if_neg h2]
  by_cases h3 : k = 3
  · rw [if_pos h3, if_pos h3, if_pos h3]
    exact when_iff turn_eq_nil _ _ _
  · rw [if_neg h3, if_neg h3]
theorem altIn_turn (k : Int) (s : ByteArray) (l inn : List ByteArray) : altIn k (if k = 3 then turn s else s) (l.map turn) (inn.map turn) = (altIn k s l inn).map turn := by
  unfold altIn
  by_cases h1 : k = 1
  · rw [if_pos h1, if_pos h1, List.map_append]
  rw [if_neg h1, if_neg h1]
  by_cases h3 : k = 3
  · rw [if_pos h3, if_pos h3, if_pos h3]; simp
  · rw [if_neg h3, if_neg h3]
mutual
theorem exp_turn (ds : List Dat) : ∀ (e : Exp) (inn : List ByteArray) (c : Ck), expC ds (turnE e) (inn.map turn) c = expC ds e inn c
  | .mk k a s n ats bs es ls, inn, c => by
    simp only [turnE, expC]
    split
    · rfl
    by_cases h1 : k = 1
    · simp only [if_pos h1, has_turn, List.length_map, atoms_turn]
    simp only [if_neg h1]
    by_cases h2 : k = 2
    · simp only [if_pos h2, List.length_map, atoms_turn]
    simp only [if_neg h2]
    by_cases h3 : k = 3
    · simp only [if_pos h3, List.length_map, atoms_turn]
    simp only [if_neg h3]
    by_cases h4 : k = 4
    · simp only [if_pos h4]
    simp only [if_neg h4]
    by_cases h5 : k = 5
    · simp only [if_pos h5]
      rw [show (turnBs bs).length = bs.length from by rw [turnBs_map, List.length_map], show (turnEs es).length = es.length from by rw [turnEs_map, List.length_map]]
      have hn : (turnBs bs).map Bind.name = (bs.map Bind.name).map turn := by rw [turnBs_map, names_turn]
      rw [hn, ← List.map_append, kid_turn ds es, binds_turn ds bs]
      rw [show dupC [] (turnBs bs) c = dupC [] bs c from by rw [turnBs_map]; exact dup_turn bs [] c]
    simp only [if_neg h5]
    by_cases h6 : k = 6
    · simp only [if_pos h6]
      rw [show (turnEs es).length = es.length from by rw [turnEs_map, List.length_map], show (turnLs ls).length = ls.length from by rw [turnLs_map, List.length_map]]
      rw [kid_turn ds es, show altsC ds [] (turnLs ls) (inn.map turn) (kidC ds es inn c) = altsC ds [] ls inn (kidC ds es inn c) from alts_turn ds ls [] inn _]
    simp only [if_neg h6]
theorem form_turn (ds : List Dat) : ∀ (b : Bind) (inn : List ByteArray) (c : Ck), formC ds (turnB b) (inn.map turn) c = formC ds b inn c
  | .mk s a l e, inn, c => by
    simp only [turnB, formC]
    split
    · rfl
    rw [← List.map_append, exp_turn ds e, args_turn]
theorem alt_turn (ds : List Dat) : ∀ (b : Alt) (again : Bool) (inn : List ByteArray) (c : Ck), altC ds (turnL b) again (inn.map turn) c = altC ds b again inn c
  | .mk k a s n l e, again, inn, c => by
    simp only [turnL, altC]
    rw [altIn_turn, head_turn, exp_turn ds e]
theorem binds_turn (ds : List Dat) : ∀ (l : List Bind) (inn : List ByteArray) (c : Ck), bindsC ds (turnBs l) (inn.map turn) c = bindsC ds l inn c
  | [], inn, c => by simp only [turnBs, bindsC]
  | b :: l, inn, c => by simp only [turnBs, bindsC]; rw [form_turn ds b, binds_turn ds l]
theorem kid_turn (ds : List Dat) : ∀ (l : List Exp) (inn : List ByteArray) (c : Ck), kidC ds (turnEs l) (inn.map turn) c = kidC ds l inn c
  | [], inn, c => by simp only [turnEs, kidC]
  | e :: l, inn, c => by simp only [turnEs, kidC]; rw [exp_turn ds e]
theorem alts_turn (ds : List Dat) : ∀ (l p : List Alt) (inn : List ByteArray) (c : Ck), altsC ds (p.map turnL) (turnLs l) (inn.map turn) c = altsC ds p l inn c
  | [], p, inn, c => by simp only [turnLs, altsC]
  | a :: l, p, inn, c => by
    simp only [turnLs, altsC]
    rw [again_turn, last_turn, alt_turn ds a, ← alts_turn ds l (p ++ [a])]
    simp
end
theorem check_turn (ds : List Dat) (l : List Bind) : checkC ds (turnBs l) = checkC ds l := by
  unfold checkC
  have hn : (turnBs l).map Bind.name = (l.map Bind.name).map turn := by rw [turnBs_map, names_turn]
  rw [hn, binds_turn ds l, show dupC [] (turnBs l) (datasC [] ds ⟨false, 0, 0⟩) = dupC [] l (datasC [] ds ⟨false, 0, 0⟩) from by rw [turnBs_map]; exact dup_turn l [] _]
  refine when_iff ?_ _ _ _
  have := has_turn (l.map Bind.name) mainB
  rw [turn_main] at this
  rw [this]
/-! How large it is -/
theorem turn_size (s : ByteArray) : (turn s).size ≤ s.size + 1 := by
  unfold turn; split
  · omega
  · rw [size_turned]; omega
theorem sizeS_turn : ∀ l : List ByteArray, sizeS (l.map turn) ≤ 2 * sizeS l
  | [] => by simp [sizeS]
  | s :: l => by
    have h1 := turn_size s
    have h2 := sizeS_turn l
    simp only [List.map_cons, sizeS]; omega
theorem sizeA_turn : ∀ l : List (ByteArray × Int), sizeA (l.map fun x => (turn x.1, x.2)) ≤ 2 * sizeA l
  | [] => by simp [sizeA]
  | s :: l => by
    have h1 := turn_size s.1
    have h2 := sizeA_turn l
    simp only [List.map_cons, sizeA]; omega
mutual
theorem sizeE_turn : ∀ e : Exp, (turnE e).size ≤ 2 * e.size
  | .mk k a s n ats bs es ls => by
    have h1 : (if k = 1 then turn s else s).size ≤ s.size + 1 := by
      split
      · exact turn_size s
      · omega
    have h2 := sizeA_turn ats
    have h3 := sizeBs_turn bs
    have h4 := sizeEs_turn es
    have h5 := sizeLs_turn ls
    simp only [turnE, Exp.size]; omega
theorem sizeB_turn : ∀ e : Bind, (turnB e).size ≤ 2 * e.size
  | .mk s a l e => by
    have h1 := turn_size s
    have h2 := sizeS_turn l
    have h3 := sizeE_turn e
    simp only [turnB, Bind.size]; omega
theorem sizeL_turn : ∀ e : Alt, (turnL e).size ≤ 2 * e.size
  | .mk k a s n l e => by
    have h1 : (if k = 3 then turn s else s).size ≤ s.size + 1 := by
      split
      · exact turn_size s
      · omega
    have h2 := sizeS_turn l
    have h3 := sizeE_turn e
    simp only [turnL, Alt.size]; omega
theorem sizeEs_turn : ∀ l : List Exp, sizeEs (turnEs l) ≤ 2 * sizeEs l
  | [] => by simp [turnEs, sizeEs]
  | e :: l => by
    have h1 := sizeE_turn e
    have h2 := sizeEs_turn l
    simp only [turnEs, sizeEs]; omega
theorem sizeBs_turn : ∀ l : List Bind, sizeBs (turnBs l) ≤ 2 * sizeBs l
  | [] => by simp [turnBs, sizeBs]
  | e :: l => by
    have h1 := sizeB_turn e
    have h2 := sizeBs_turn l
    simp only [turnBs, sizeBs]; omega
theorem sizeLs_turn : ∀ l : List Alt, sizeLs (turnLs l) ≤ 2 * sizeLs l
  | [] => by simp [turnLs, sizeLs]
  | e :: l => by
    have h1 := sizeL_turn e
    have h2 := sizeLs_turn l
    simp only [turnLs, sizeLs]; omega
end
end Go.Proofs.YtoepmdbicdoieaaDoor.M
