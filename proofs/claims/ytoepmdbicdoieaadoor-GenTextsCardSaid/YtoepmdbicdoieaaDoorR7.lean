/- Places play no part in what is checked and laid. -/
import Derived.Test.YtoepmdbicdoieaaDoorR5
import Derived.Test.YtoepmdbicdoieaaDoorJ10
namespace Go.Proofs.YtoepmdbicdoieaaDoor.X
open Go Go.Eng Go.Proofs Go.Proofs.YtoepmdbicdoieaaDoor.T Go.Proofs.YtoepmdbicdoieaaDoor.K Go.Proofs.YtoepmdbicdoieaaDoor.U
open V (lessL onceL atomsL within withinB withinL withinBs withinKid withinLs classOf fieldOf)
set_option linter.unusedSimpArgs false
set_option linter.unusedVariables false
set_option maxRecDepth 100000
set_option maxHeartbeats 1000000
def erK (c : Ck) : Ck := ⟨c.bad, 0, c.e⟩
theorem fail_er (c : Ck) (a e : Int) : failC (erK c) 0 e = erK (failC c a e) := by
  unfold failC
  show (if c.bad = true then erK c else _) = _
  split <;> rfl
theorem when_er {p : Prop} [Decidable p] (c : Ck) (a e : Int) : whenC p (erK c) 0 e = erK (whenC p c a e) := by
  unfold whenC
  split
  · exact fail_er c a e
  · rfl
theorem atomsC_er (a : Int) (inn : List ByteArray) : ∀ (l : List (ByteArray × Int)) (c : Ck), atomsC 0 inn l (erK c) = erK (atomsC a inn l c)
  | [], c => rfl
  | x :: l, c => by
    show atomsC 0 inn l (stepA 0 inn (erK c) x) = erK (atomsC a inn l (stepA a inn c x))
    rw [show stepA 0 inn (erK c) x = erK (stepA a inn c x) from when_er c a 31]
    exact atomsC_er a inn l _
theorem nameB_er (b : Bind) : (erB b).name = b.name := by cases b; rfl
theorem atB_er (b : Bind) : (erB b).at_ = 0 := by cases b; rfl
theorem namesB_er (l : List Bind) : (l.map erB).map Bind.name = l.map Bind.name := by rw [List.map_map]; exact List.map_congr_left fun b _ => nameB_er b
theorem dup_er : ∀ (l : List Bind) (p : List ByteArray) (c : Ck), dupC p (l.map erB) (erK c) = erK (dupC p l c)
  | [], p, c => rfl
  | b :: l, p, c => by
    simp only [List.map_cons, dupC]
    rw [show stepD p (erB b) (erK c) = erK (stepD p b c) from by
      unfold stepD
      rw [nameB_er, atB_er, when_er c b.at_ 31, when_er _ b.at_ 30], nameB_er, dup_er l]
theorem kindL_er (a : Alt) : (erL a).kind = a.kind := by cases a; rfl
theorem nameL_er (a : Alt) : (erL a).name = a.name := by cases a; rfl
theorem nL_er (a : Alt) : (erL a).n = a.n := by cases a; rfl
theorem atL_er (a : Alt) : (erL a).at_ = 0 := by cases a; rfl
theorem varsL_er (a : Alt) : (erL a).vars = a.vars := by cases a; rfl
theorem bodyL_er (a : Alt) : (erL a).body = erE a.body := by cases a; rfl
theorem argsB_er (b : Bind) : (erB b).args = b.args := by cases b; rfl
theorem bodyB_er (b : Bind) : (erB b).body = erE b.body := by cases b; rfl
theorem kindE_er (e : Exp) : (erE e).kind = e.kind := by cases e; rfl
theorem nE_er (e : Exp) : (erE e).n = e.n := by cases e; rfl
theorem nameE_er (e : Exp) : (erE e).name = e.name := by cases e; rfl
theorem atomsE_er (e : Exp) : (erE e).atoms = e.atoms := by cases e; rfl
theorem kidsE_er (e : Exp) : (erE e).kids = e.kids.map erE := by cases e; simp only [erE, Exp.kids, erEs_map]
theorem altsE_er (e : Exp) : (erE e).alts = e.alts.map erL := by cases e; simp only [erE, Exp.alts, erLs_map]
theorem last_er (a : Alt) : ∀ (p : List Alt) (c : Ck), lastC (p.map erL) (erL a) (erK c) = erK (lastC p a c)
  | [], c => rfl
  | b :: p, c => by
    show lastC (p.map erL) (erL a) (whenC ((erL b).kind = 3) (erK c) (erL a).at_ 35) = erK (lastC p a (whenC (b.kind = 3) c a.at_ 35))
    rw [kindL_er, atL_er, when_er c a.at_ 35]
    exact last_er a p _
theorem again_erF (a : Alt) : ∀ (p : List Alt) (r : Bool), (p.map erL).foldl (fun r b => r || (decide ((erL a).kind = 1) && decide (b.kind = 1) && decide ((erL a).name = b.name)) || (decide ((erL a).kind = 2) && decide (b.kind = 2) && decide ((erL a).n = b.n))) r = p.foldl (fun r b => r || (decide (a.kind = 1) && decide (b.kind = 1) && decide (a.name = b.name)) || (decide (a.kind = 2) && decide (b.kind = 2) && decide (a.n = b.n))) r
  | [], r => rfl
  | b :: p, r => by
    simp only [List.map_cons, List.foldl_cons]
    rw [again_erF a p]
    simp only [kindL_er, nameL_er, nL_er]
theorem again_er (p : List Alt) (a : Alt) : againB (p.map erL) (erL a) = againB p a := again_erF a p false
theorem args_er (a : Int) (l : List ByteArray) (c : Ck) : argsC 0 l (erK c) = erK (argsC a l c) := by
  unfold argsC
  split
  · exact fail_er c a 33
  split
  · exact fail_er c a 31
  split
  · exact fail_er c a 30
  · rfl
theorem arity_er (s : ByteArray) : ∀ ds : List Dat, arityD (ds.map erD) s = arityD ds s
  | [] => rfl
  | d :: l => by
    simp only [List.map_cons, arityD, arity_er s l]
    rfl
theorem head_er (ds : List Dat) (k a : Int) (s : ByteArray) (l : List ByteArray) (c : Ck) : headC (ds.map erD) k 0 s l (erK c) = erK (headC ds k a s l c) := by
  unfold headC
  rw [arity_er]
  by_cases h1 : k = 1
  · rw [if_pos h1, if_pos h1]
    cases arityD ds s with
    | none => exact fail_er c a 32
    | some m =>
      dsimp only
      split
      · exact fail_er c a 33
      split
      · exact fail_er c a 31
      split
      · exact fail_er c a 30
      · rfl
  rw [if_neg h1, if_neg h1]
  split
  · rfl
  split
  · exact when_er c a 31
  · exact fail_er c a 2
mutual
theorem exp_er (ds : List Dat) : ∀ (e : Exp) (inn : List ByteArray) (c : Ck), expC (ds.map erD) (erE e) inn (erK c) = erK (expC ds e inn c)
  | .mk k a s n ats bs es ls, inn, c => by
    simp only [erE, expC, arity_er]
    by_cases hb : c.bad = true
    · rw [if_pos hb, if_pos (show (erK c).bad = true from hb)]
    rw [if_neg hb, if_neg (show ¬ (erK c).bad = true from hb)]
    by_cases h1 : k = 1
    · rw [if_pos h1, if_pos h1, when_er c a 31, when_er _ a 33, atomsC_er a]
    rw [if_neg h1, if_neg h1]
    by_cases h2 : k = 2
    · rw [if_pos h2, if_pos h2, when_er c a 32, when_er _ a 33, atomsC_er a]
    rw [if_neg h2, if_neg h2]
    by_cases h3 : k = 3
    · rw [if_pos h3, if_pos h3, when_er c a 34, when_er _ a 33, atomsC_er a]
    rw [if_neg h3, if_neg h3]
    by_cases h4 : k = 4
    · rw [if_pos h4, if_pos h4]
    rw [if_neg h4, if_neg h4]
    by_cases h5 : k = 5
    · rw [if_pos h5, if_pos h5]
      rw [show (erBs bs).length = bs.length from by rw [erBs_map, List.length_map], show (erEs es).length = es.length from by rw [erEs_map, List.length_map]]
      rw [show (erBs bs).map Bind.name = bs.map Bind.name from by rw [erBs_map, namesB_er], show dupC [] (erBs bs) (erK c) = erK (dupC [] bs c) from by rw [erBs_map]; exact dup_er bs [] c]
      rw [bindsC_er ds bs, kid_er ds es]
      split
      · exact fail_er c a 2
      · rfl
    rw [if_neg h5, if_neg h5]
    by_cases h6 : k = 6
    · rw [if_pos h6, if_pos h6]
      rw [show (erEs es).length = es.length from by rw [erEs_map, List.length_map], show (erLs ls).length = ls.length from by rw [erLs_map, List.length_map]]
      rw [kid_er ds es, show altsC (ds.map erD) [] (erLs ls) inn (erK (kidC ds es inn c)) = erK (altsC ds [] ls inn (kidC ds es inn c)) from alts_er ds ls [] inn _]
      split
      · exact fail_er c a 2
      · rfl
    rw [if_neg h6, if_neg h6]
    exact fail_er c a 2
theorem form_er (ds : List Dat) : ∀ (b : Bind) (inn : List ByteArray) (c : Ck), formC (ds.map erD) (erB b) inn (erK c) = erK (formC ds b inn c)
  | .mk s a l e, inn, c => by
    simp only [erB, formC]
    by_cases hb : c.bad = true
    · rw [if_pos hb, if_pos (show (erK c).bad = true from hb)]
    rw [if_neg hb, if_neg (show ¬ (erK c).bad = true from hb), args_er a, exp_er ds e]
theorem altC_er (ds : List Dat) : ∀ (b : Alt) (again : Bool) (inn : List ByteArray) (c : Ck), altC (ds.map erD) (erL b) again inn (erK c) = erK (altC ds b again inn c)
  | .mk k a s n l e, again, inn, c => by
    simp only [erL, altC]
    rw [head_er ds k a, when_er _ a 30, exp_er ds e]
theorem bindsC_er (ds : List Dat) : ∀ (l : List Bind) (inn : List ByteArray) (c : Ck), bindsC (ds.map erD) (erBs l) inn (erK c) = erK (bindsC ds l inn c)
  | [], inn, c => by simp only [erBs, bindsC]
  | b :: l, inn, c => by simp only [erBs, bindsC]; rw [form_er ds b, bindsC_er ds l]
theorem kid_er (ds : List Dat) : ∀ (l : List Exp) (inn : List ByteArray) (c : Ck), kidC (ds.map erD) (erEs l) inn (erK c) = erK (kidC ds l inn c)
  | [], inn, c => by simp only [erEs, kidC]
  | e :: l, inn, c => by simp only [erEs, kidC]; rw [exp_er ds e]
theorem alts_er (ds : List Dat) : ∀ (l p : List Alt) (inn : List ByteArray) (c : Ck), altsC (ds.map erD) (p.map erL) (erLs l) inn (erK c) = erK (altsC ds p l inn c)
  | [], p, inn, c => by simp only [erLs, altsC]
  | a :: l, p, inn, c => by
    simp only [erLs, altsC]
    rw [again_er, last_er, altC_er ds a, ← alts_er ds l (p ++ [a])]
    simp only [List.map_append, List.map_cons, List.map_nil]
    by_cases hb : c.bad = true
    · rw [if_pos hb, if_pos (show (erK c).bad = true from hb)]
    · rw [if_neg hb, if_neg (show ¬ (erK c).bad = true from hb)]
end
theorem twiceD_er (d : Dat) : ∀ (p : List Dat) (c : Ck), twiceD (p.map erD) (erD d) (erK c) = erK (twiceD p d c)
  | [], c => rfl
  | x :: p, c => by
    show twiceD (p.map erD) (erD d) (whenC ((erD x).name = (erD d).name) (erK c) (erD d).at_ 30) = erK (twiceD p d (whenC (x.name = d.name) c d.at_ 30))
    rw [show whenC ((erD x).name = (erD d).name) (erK c) (erD d).at_ 30 = erK (whenC (x.name = d.name) c d.at_ 30) from when_er c d.at_ 30]
    exact twiceD_er d p _
theorem datasC_er : ∀ (l p : List Dat) (c : Ck), datasC (p.map erD) (l.map erD) (erK c) = erK (datasC p l c)
  | [], p, c => rfl
  | d :: l, p, c => by
    simp only [List.map_cons, datasC]
    rw [show stepDat (p.map erD) (erD d) (erK c) = erK (stepDat p d c) from by
      unfold stepDat
      rw [twiceD_er]
      exact when_er _ d.at_ 33]
    rw [← datasC_er l (p ++ [d])]
    simp only [List.map_append, List.map_cons, List.map_nil]
theorem check_er (ds : List Dat) (l : List Bind) : checkC (ds.map erD) (erBs l) = erK (checkC ds l) := by
  unfold checkC
  rw [show (⟨false, 0, 0⟩ : Ck) = erK ⟨false, 0, 0⟩ from rfl, show datasC [] (ds.map erD) (erK ⟨false, 0, 0⟩) = erK (datasC [] ds ⟨false, 0, 0⟩) from datasC_er ds [] _]
  rw [show (erBs l).map Bind.name = l.map Bind.name from by rw [erBs_map, namesB_er], show dupC [] (erBs l) (erK (datasC [] ds ⟨false, 0, 0⟩)) = erK (dupC [] l (datasC [] ds ⟨false, 0, 0⟩)) from by rw [erBs_map]; exact dup_er l [] _]
  rw [bindsC_er ds l]
  exact when_er _ 0 36
/-! What is laid -/
def erF (f : Frm) : Frm := (f.1, erE f.2)
def erS (s : Sc) : Sc := { s with forms := s.forms.map erF }
def erC (C : Env) : Env := ⟨C.ds.map erD, C.tops⟩
mutual
theorem within_er : ∀ e : Exp, within (erE e) = within e
  | .mk k a s n ats bs es ls => by
    simp only [erE, within]
    rw [show (erBs bs).map Bind.name = bs.map Bind.name from by rw [erBs_map, namesB_er], withinBs_er bs, withinKid_er es, withinLs_er ls]
theorem withinB_er : ∀ b : Bind, withinB (erB b) = withinB b
  | .mk s a l e => by simp only [erB, withinB]; rw [within_er e]
theorem withinL_er : ∀ b : Alt, withinL (erL b) = withinL b
  | .mk k a s n l e => by simp only [erL, withinL]; rw [within_er e]
theorem withinBs_er : ∀ bs : List Bind, withinBs (erBs bs) = withinBs bs
  | [] => rfl
  | b :: bs => by simp only [erBs, withinBs]; rw [withinB_er b, withinBs_er bs]
theorem withinKid_er : ∀ es : List Exp, withinKid (erEs es) = withinKid es
  | [] => rfl
  | e :: es => by simp only [erEs, withinKid]; rw [within_er e]
theorem withinLs_er : ∀ bs : List Alt, withinLs (erLs bs) = withinLs bs
  | [] => rfl
  | b :: bs => by simp only [erLs, withinLs]; rw [withinL_er b, withinLs_er bs]
end
theorem conD_er (s : ByteArray) : ∀ ds : List Dat, conD (ds.map erD) s = conD ds s
  | [] => rfl
  | d :: l => by
    simp only [List.map_cons, conD, conD_er s l, List.any_map]
    rfl
theorem place_er (C : Env) (l : List ByteArray) (s : ByteArray) : place (erC C) l s = place C l s := rfl
theorem atomsP_er (C : Env) (l : List ByteArray) : ∀ (ats : List (ByteArray × Int)) (k : Int), atomsP (erC C) l ats k = atomsP C l ats k
  | [], k => rfl
  | a :: r, k => by simp only [atomsP, atomsP_er C l r, place_er]
theorem places_er (C : Env) (l : List ByteArray) : place (erC C) l = place C l := funext fun s => place_er C l s
theorem plainB_er (e : Exp) : V.plainB (erE e) = V.plainB e := by unfold V.plainB; rw [kindE_er, atomsE_er]
theorem fieldOf_er (ags : List ByteArray) (e : Exp) : fieldOf ags (erE e) = fieldOf ags e := by
  unfold fieldOf
  rw [kidsE_er, altsE_er]
  cases hk : e.kids with
  | nil => rfl
  | cons k ks =>
    cases ha : e.alts with
    | nil => rfl
    | cons a tl =>
      cases tl with
      | cons b bs => rfl
      | nil =>
        simp only [List.map_cons, List.map_nil]
        have hp : V.picks ags (erE e) (erE k) (erL a) ↔ V.picks ags e k a := by
          unfold V.picks
          rw [kindE_er, plainB_er, kindL_er, bodyL_er, plainB_er]
        simp only [varsL_er, bodyL_er, nameE_er, nameL_er]
        by_cases h : V.picks ags e k a ∧ 0 ≤ V.lastAt a.vars a.body.name a.vars.length
        · rw [if_pos h, if_pos ⟨hp.2 h.1, h.2⟩]
        · rw [if_neg h, if_neg (fun q => h ⟨hp.1 q.1, q.2⟩)]
theorem classOf_er (ags : List ByteArray) (e : Exp) : classOf ags (erE e) = classOf ags e := by unfold classOf; rw [fieldOf_er, kindE_er]
theorem preM_er : ∀ bs : List Bind, preM (erBs bs) = preM bs
  | [] => rfl
  | b :: bs => by simp only [erBs, preM, argsB_er, bodyB_er, classOf_er, atomsE_er, preM_er bs]
theorem freeB_er (b : Bind) : freeB (erB b) = freeB b := by unfold freeB; rw [bodyB_er, argsB_er, within_er]
theorem infoS_er (s : Sc) (f : Frm) (need : List ByteArray) : infoS (erS s) (erF f) need = erS (infoS s f need) := by
  simp [infoS, erS, erF]
theorem stepM_er (C : Env) (inn : List ByteArray) (t : Grp) (b : Bind) : stepM (erC C) inn ⟨t.makes, t.frm, erS t.s⟩ (erB b) = ⟨(stepM C inn t b).makes, (stepM C inn t b).frm, erS (stepM C inn t b).s⟩ := by
  unfold stepM
  rw [argsB_er, bodyB_er, classOf_er, atomsE_er, fieldOf_er, nE_er, nameE_er, freeB_er, places_er, atomsP_er]
  rw [show (erC C).ds = C.ds.map erD from rfl, conD_er, conD_er]
  split
  · rfl
  split
  · rfl
  split
  · rfl
  · simp only [← infoS_er]; rfl
theorem foldM_er (C : Env) (inn : List ByteArray) : ∀ (bs : List Bind) (t : Grp), (bs.map erB).foldl (stepM (erC C) inn) ⟨t.makes, t.frm, erS t.s⟩ = ⟨(bs.foldl (stepM C inn) t).makes, (bs.foldl (stepM C inn) t).frm, erS (bs.foldl (stepM C inn) t).s⟩
  | [], t => rfl
  | b :: bs, t => by simp only [List.map_cons, List.foldl_cons]; rw [stepM_er, foldM_er C inn bs]
theorem letIn_er (bs : List Bind) (l : List ByteArray) : letIn (erBs bs) l = letIn bs l := by
  unfold letIn
  rw [preM_er, erBs_map, namesB_er]
theorem letM_er (C : Env) (bs : List Bind) (l : List ByteArray) (s : Sc) : letM (erC C) (erBs bs) l (erS s) = ⟨(letM C bs l s).makes, (letM C bs l s).frm, erS (letM C bs l s).s⟩ := by
  unfold letM
  rw [letIn_er, preM_er, erBs_map]
  exact foldM_er C (letIn bs l) bs ⟨preM bs, l.length, s⟩
theorem keepA_er (l keep : List ByteArray) (a : Alt) : keepA l keep (erL a) = keepA l keep a := by
  unfold keepA
  rw [kindL_er, nameL_er, varsL_er, bodyL_er, within_er]
theorem keepL_er (l : List ByteArray) (ls : List Alt) : keepL l (erLs ls) = keepL l ls := by
  rw [erLs_map]
  unfold keepL
  rw [List.foldl_map]
  congr 1
  funext k a
  exact keepA_er l k a
theorem intsS_er (s : Sc) (ats : List (ByteArray × Int)) (b : Int) : intsS (erS s) ats b = erS (intsS s ats b) := by
  unfold intsS
  split <;> rfl
theorem conM_er (C : Env) (nm : ByteArray) (ats : List (ByteArray × Int)) (l : List ByteArray) : conM (erC C) nm ats l = conM C nm ats l := by
  unfold conM
  rw [atomsP_er, show (erC C).ds = C.ds.map erD from rfl, conD_er]
mutual
theorem layE_er (C : Env) : ∀ (e : Exp) (l : List ByteArray) (s : Sc), layE (erC C) (erE e) l (erS s) = erS (layE C e l s)
  | .mk k a nm n ats bs es ls, l, s => by
    simp only [erE, layE]
    by_cases hb : s.big = true
    · rw [if_pos hb, if_pos (show (erS s).big = true from hb)]
    rw [if_neg hb, if_neg (show ¬ (erS s).big = true from hb)]
    by_cases k4 : k = 4
    · rw [if_pos k4, if_pos k4]; rfl
    rw [if_neg k4, if_neg k4]
    by_cases k2 : k = 2
    · rw [if_pos k2, if_pos k2, conM_er]; rfl
    rw [if_neg k2, if_neg k2]
    by_cases k1 : k = 1
    · rw [if_pos k1, if_pos k1, intsS_er, place_er, atomsP_er]; rfl
    rw [if_neg k1, if_neg k1]
    by_cases k3 : k = 3
    · rw [if_pos k3, if_pos k3, intsS_er, atomsP_er]; rfl
    rw [if_neg k3, if_neg k3]
    by_cases k5 : k = 5
    · rw [if_pos k5, if_pos k5, letIn_er, letM_er]
      exact layKid_er C es (letIn bs l) (putS (letM C bs l s).s (insL (↑l.length) (letM C bs l s).makes))
    rw [if_neg k5, if_neg k5]
    by_cases k6 : k = 6
    · rw [if_pos k6, if_pos k6]
      have h1 : caseS (erC C) (erEs es) (erLs ls) l (erS s) = erS (caseS C es ls l s) := by
        unfold caseS
        rw [withinKid_er, places_er, keepL_er]; rfl
      have h2 := layKid_er C es (here l (withinKid es)) (caseS C es ls l s)
      have h3 := layAlts_er C (keepL l ls) ls ⟨[], armsS (layKid C es (here l (withinKid es)) (caseS C es ls l s)) s.ins.length (keepL l ls)⟩
      rw [h1, withinKid_er, h2, keepL_er]
      have h4 : armsS (erS (layKid C es (here l (withinKid es)) (caseS C es ls l s))) (erS s).ins.length (keepL l ls) = erS (armsS (layKid C es (here l (withinKid es)) (caseS C es ls l s)) s.ins.length (keepL l ls)) := rfl
      rw [h4, h3]; rfl
    · rw [if_neg k6, if_neg k6]
theorem layKid_er (C : Env) : ∀ (es : List Exp) (l : List ByteArray) (s : Sc), layKid (erC C) (erEs es) l (erS s) = erS (layKid C es l s)
  | [], l, s => rfl
  | e :: es, l, s => by simp only [erEs, layKid]; exact layE_er C e l s
theorem layAlt_er (C : Env) : ∀ (keep : List ByteArray) (a : Alt) (t : Ars), layAlt (erC C) keep (erL a) ⟨t.arms, erS t.s⟩ = ⟨(layAlt C keep a t).arms, erS (layAlt C keep a t).s⟩
  | keep, .mk k a nm n vs e, t => by
    simp only [erL, layAlt]
    rw [layE_er C e, show (erC C).ds = C.ds.map erD from rfl, conD_er]; rfl
theorem layAlts_er (C : Env) : ∀ (keep : List ByteArray) (ls : List Alt) (t : Ars), layAlts (erC C) keep (erLs ls) ⟨t.arms, erS t.s⟩ = ⟨(layAlts C keep ls t).arms, erS (layAlts C keep ls t).s⟩
  | keep, [], t => rfl
  | keep, a :: ls, t => by
    simp only [erLs, layAlts]
    rw [layAlt_er C keep a t]
    exact layAlts_er C keep ls (layAlt C keep a t)
end
theorem runQ_er {C : Env} {i : Nat} {s t : Sc} (h : RunQ C i s t) : RunQ (erC C) i (erS s) (erS t) := by
  induction h with
  | stop hn => exact .stop (fun h => hn ⟨by simpa [erS] using h.1, h.2⟩)
  | @step i s s' f need hb hf hn hr ih =>
    refine .step (erF f) need hb (by simp [erS, hf]) hn ?_
    have : stepQ (erC C) i (erF f) need (erS s) = erS (stepQ C i f need s) := by
      unfold stepQ
      show layE (erC C) (erE f.2) (f.1 ++ need) (erS (setTo s i s.ins.length)) = _
      rw [layE_er]
    rw [this]
    exact ih
theorem begins_er (bs : List Bind) : begins (erBs bs) = erS (begins bs) := by
  have key : ∀ (l : List Bind) (s : Sc), (l.map erB).foldl (fun s b => infoS s (b.args, b.body) []) (erS s) = erS (l.foldl (fun s b => infoS s (b.args, b.body) []) s) := by
    intro l
    induction l with
    | nil => intro s; rfl
    | cons b l ih =>
      intro s
      simp only [List.map_cons, List.foldl_cons]
      rw [← ih]
      congr 1
      rw [argsB_er, bodyB_er]
      exact infoS_er s (b.args, b.body) []
  rw [erBs_map]
  exact key bs ⟨[], [], [], [], false⟩
theorem globs_er : ∀ (bs : List Bind) (k : Nat), globs (erBs bs) k = globs bs k
  | [], k => rfl
  | b :: bs, k => by simp only [erBs, globs, nameB_er, globs_er bs]
theorem env_er (ds : List Dat) (bs : List Bind) : env (ds.map erD) (erBs bs) = erC (env ds bs) := by
  show (⟨ds.map erD, (erBs bs).map Bind.name⟩ : Env) = ⟨ds.map erD, bs.map Bind.name⟩
  rw [erBs_map, namesB_er]
theorem compiles_er {ds : List Dat} {bs : List Bind} {c : Cd} {a e : Int} (h : Compiles ds bs c a e) : Compiles (ds.map erD) (erBs bs) c 0 e := by
  unfold Compiles at h ⊢
  rw [check_er]
  split at h
  · rename_i he
    rw [if_pos (show (erK (checkC ds bs)).e = 0 from he)]
    obtain ⟨s, h1, rfl, h3⟩ := h
    refine ⟨erS s, by rw [env_er, begins_er]; exact runQ_er h1, rfl, ?_⟩
    split at h3
    · rename_i hb
      rw [if_pos (show (erS s).big = true from hb)]
      exact h3
    · rename_i hb
      rw [if_neg (show ¬ (erS s).big = true from hb)]
      obtain ⟨rfl, h4⟩ := h3
      refine ⟨?_, h4⟩
      show (⟨ds.map _, globs bs 0, _, _⟩ : Cd) = ⟨(ds.map erD).map _, globs (erBs bs) 0, _, _⟩
      rw [globs_er, List.map_map]; rfl
  · rename_i he
    rw [if_neg (show ¬ (erK (checkC ds bs)).e = 0 from he)]
    obtain ⟨rfl, _, h4⟩ := h
    exact ⟨rfl, rfl, h4⟩
/-- Programs that are the same but for their places have the same code. -/
theorem compiles_sim {ds ds' : List Dat} {bs bs' : List Bind} {c c' : Cd} {a a' e e' : Int} (h : Compiles ds bs c a e) (h' : Compiles ds' bs' c' a' e') (hd : ds.map erD = ds'.map erD) (hb : erBs bs = erBs bs') : c = c' ∧ e = e' := by
  have h1 := compiles_er h
  have h2 := compiles_er h'
  rw [← hd, ← hb] at h2
  obtain ⟨g1, _, g2⟩ := J.compiles_one h1 h2
  exact ⟨g1, g2⟩
end Go.Proofs.YtoepmdbicdoieaaDoor.X
