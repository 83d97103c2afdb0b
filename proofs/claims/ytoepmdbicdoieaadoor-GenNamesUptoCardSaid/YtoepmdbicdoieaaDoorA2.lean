/- Names that are turned into others: what is laid is the same. -/
import Derived.Test.YtoepmdbicdoieaaDoorA1
namespace Go.Proofs.YtoepmdbicdoieaaDoor.M
open Go Go.Eng Go.Proofs Go.Proofs.YtoepmdbicdoieaaDoor.T Go.Proofs.YtoepmdbicdoieaaDoor.K Go.Proofs.YtoepmdbicdoieaaDoor.U
open V (lessL onceL atomsL within withinB withinL withinBs withinKid withinLs classOf fieldOf)
set_option linter.unusedSimpArgs false
set_option linter.unusedVariables false
set_option maxRecDepth 100000
set_option maxHeartbeats 1000000
abbrev turnA (x : ByteArray × Int) : ByteArray × Int := (turn x.1, x.2)
def turnF (f : Frm) : Frm := (f.1.map turn, turnE f.2)
def turnS (s : Sc) : Sc := { s with forms := s.forms.map turnF, needs := s.needs.map (List.map turn) }
def turnC (C : Env) : Env := ⟨C.ds, C.tops.map turn⟩
theorem kindE (e : Exp) : (turnE e).kind = e.kind := by cases e; rfl
theorem nE (e : Exp) : (turnE e).n = e.n := by cases e; rfl
theorem nameE (e : Exp) : (turnE e).name = if e.kind = 1 then turn e.name else e.name := by cases e; rfl
theorem atomsE (e : Exp) : (turnE e).atoms = e.atoms.map turnA := by cases e; rfl
theorem bindsE (e : Exp) : (turnE e).binds = e.binds.map turnB := by cases e; simp only [turnE, Exp.binds, turnBs_map]
theorem kidsE (e : Exp) : (turnE e).kids = e.kids.map turnE := by cases e; simp only [turnE, Exp.kids, turnEs_map]
theorem altsE (e : Exp) : (turnE e).alts = e.alts.map turnL := by cases e; simp only [turnE, Exp.alts, turnLs_map]
theorem argsB (b : Bind) : (turnB b).args = b.args.map turn := by cases b; rfl
theorem bodyB (b : Bind) : (turnB b).body = turnE b.body := by cases b; rfl
theorem varsL (a : Alt) : (turnL a).vars = a.vars.map turn := by cases a; rfl
theorem bodyL (a : Alt) : (turnL a).body = turnE a.body := by cases a; rfl
theorem findL_turn : ∀ (l : List ByteArray) (s : ByteArray), findL (l.map turn) (turn s) = findL l s
  | [], s => rfl
  | x :: l, s => by simp only [List.map_cons, findL, findL_turn l s, turn_inj]
theorem place_turn (C : Env) (l : List ByteArray) (s : ByteArray) : place (turnC C) (l.map turn) (turn s) = place C l s := by
  unfold place turnC
  simp only [findL_turn]
theorem here_turn (l names : List ByteArray) : here (l.map turn) (names.map turn) = (here l names).map turn := by
  unfold here
  rw [List.filter_map]
  congr 1
  refine List.filter_congr fun s _ => ?_
  simp only [Function.comp, findL_turn]
theorem places_turn (C : Env) (l names : List ByteArray) : (names.map turn).map (place (turnC C) (l.map turn)) = names.map (place C l) := by
  rw [List.map_map]
  exact List.map_congr_left fun s _ => place_turn C l s
theorem nums_turn : ∀ ats : List (ByteArray × Int), nums (ats.map turnA) = nums ats
  | [] => rfl
  | a :: l => by simp only [List.map_cons, nums, nums_turn l, turn_eq_nil]
theorem atomsP_turn (C : Env) (l : List ByteArray) : ∀ (ats : List (ByteArray × Int)) (k : Int), atomsP (turnC C) (l.map turn) (ats.map turnA) k = atomsP C l ats k
  | [], k => rfl
  | a :: r, k => by simp only [List.map_cons, atomsP, atomsP_turn C l r, turn_eq_nil, place_turn]
theorem blanks_turn (n : Nat) : (blanks n).map turn = blanks n := by simp [blanks, turn_nil]
theorem lessL_turn (l o : List ByteArray) : lessL (l.map turn) (o.map turn) = (lessL l o).map turn := by
  unfold lessL
  rw [List.filter_map]
  congr 1
  refine List.filter_congr fun s _ => ?_
  have h : ((fun n => decide (n = turn s)) ∘ turn) = fun n => decide (n = s) := funext fun n => by simp [turn_inj]
  simp only [Function.comp_apply, List.any_map, h]
theorem onceF_turn : ∀ (l acc : List ByteArray), (l.map turn).foldl (fun out s => out ++ lessL [s] out) (acc.map turn) = (l.foldl (fun out s => out ++ lessL [s] out) acc).map turn
  | [], acc => rfl
  | x :: l, acc => by
    simp only [List.map_cons, List.foldl_cons]
    rw [← onceF_turn l, List.map_append, ← lessL_turn [x] acc]; rfl
theorem onceL_turn (l : List ByteArray) : onceL (l.map turn) = (onceL l).map turn := onceF_turn l []
theorem less_nil (s : ByteArray) : lessL [turn s] [⟨#[]⟩] = (lessL [s] [⟨#[]⟩]).map turn := by
  have := lessL_turn [s] [⟨#[]⟩]
  simpa [turn_nil] using this
theorem atomsL_turn : ∀ ats : List (ByteArray × Int), atomsL (ats.map turnA) = (atomsL ats).map turn
  | [] => rfl
  | a :: l => by
    have := atomsL_turn l
    simp only [atomsL, List.map_cons, List.flatMap_cons, List.map_append] at this ⊢
    rw [this, less_nil]
mutual
theorem within_turn : ∀ e : Exp, within (turnE e) = (within e).map turn
  | .mk k a s n ats bs es ls => by
    simp only [turnE, within]
    rw [← onceL_turn]
    congr 1
    have hn : (turnBs bs).map Bind.name = (bs.map Bind.name).map turn := by rw [turnBs_map, names_turn]
    have hA : (ats.map fun x => (turn x.1, x.2)) = ats.map turnA := rfl
    rw [hn, hA, atomsL_turn, withinBs_turn bs, withinKid_turn es, withinLs_turn ls]
    by_cases k1 : k = 1
    · rw [if_pos k1, if_pos k1, if_pos k1, List.map_append, less_nil]
    rw [if_neg k1, if_neg k1]
    split
    · rfl
    split
    · rw [← List.map_append, lessL_turn]
    split
    · rw [← List.map_append]
    · rfl
theorem withinB_turn : ∀ b : Bind, withinB (turnB b) = (withinB b).map turn
  | .mk s a l e => by simp only [turnB, withinB]; rw [within_turn e, lessL_turn]
theorem withinL_turn : ∀ b : Alt, withinL (turnL b) = (withinL b).map turn
  | .mk k a s n l e => by
    simp only [turnL, withinL]
    rw [within_turn e]
    split
    · rw [lessL_turn]
    · split
      · rw [← lessL_turn]; rfl
      · rfl
theorem withinBs_turn : ∀ bs : List Bind, withinBs (turnBs bs) = (withinBs bs).map turn
  | [] => rfl
  | b :: bs => by simp only [turnBs, withinBs]; rw [withinB_turn b, withinBs_turn bs, List.map_append]
theorem withinKid_turn : ∀ es : List Exp, withinKid (turnEs es) = (withinKid es).map turn
  | [] => rfl
  | e :: es => by simp only [turnEs, withinKid]; rw [within_turn e]
theorem withinLs_turn : ∀ bs : List Alt, withinLs (turnLs bs) = (withinLs bs).map turn
  | [] => rfl
  | b :: bs => by simp only [turnLs, withinLs]; rw [withinL_turn b, withinLs_turn bs, List.map_append]
end
theorem plainB_turn (e : Exp) : V.plainB (turnE e) = V.plainB e := by unfold V.plainB; rw [kindE, atomsE, List.length_map]
theorem lastAt_turn (l : List ByteArray) (s : ByteArray) : ∀ n, V.lastAt (l.map turn) (turn s) n = V.lastAt l s n
  | 0 => rfl
  | n + 1 => by
    simp only [V.lastAt, lastAt_turn l s n, List.getElem?_map]
    congr 1
    cases h : l[n]? with
    | none => simp
    | some x => simp [turn_inj]
theorem fieldOf_turn (ags : List ByteArray) (e : Exp) : fieldOf (ags.map turn) (turnE e) = ((fieldOf ags e).1, (fieldOf ags e).2.1, turn (fieldOf ags e).2.2.1, (fieldOf ags e).2.2.2) := by
  have h0 : V.fld0 = (V.fld0.1, V.fld0.2.1, turn V.fld0.2.2.1, V.fld0.2.2.2) := by show _ = (_, _, turn ⟨#[]⟩, _); rw [turn_nil]
  unfold fieldOf
  rw [kidsE, altsE]
  cases hk : e.kids with
  | nil => exact h0
  | cons k ks =>
    cases ha : e.alts with
    | nil => exact h0
    | cons a tl =>
      cases tl with
      | cons b bs => exact h0
      | nil =>
        simp only [List.map_cons, List.map_nil]
        have hp : V.picks (ags.map turn) (turnE e) (turnE k) (turnL a) ↔ V.picks ags e k a := by
          unfold V.picks
          rw [List.length_map, kindE, plainB_turn, kind_turn, bodyL, plainB_turn]
        by_cases hq : V.picks ags e k a ∧ 0 ≤ V.lastAt a.vars a.body.name a.vars.length
        · have hb := hq.1.2.2.2.2
          have hb1 : a.body.kind = 1 := by unfold V.plainB at hb; simp at hb; exact hb.1
          have hk1 : k.kind = 1 := by have := hq.1.2.2.1; unfold V.plainB at this; simp at this; exact this.1
          have hl : V.lastAt (turnL a).vars (turnL a).body.name (turnL a).vars.length = V.lastAt a.vars a.body.name a.vars.length := by
            rw [varsL, bodyL, nameE, if_pos hb1, List.length_map, lastAt_turn]
          rw [if_pos hq, if_pos ⟨hp.2 hq.1, by rw [hl]; exact hq.2⟩, hl]
          rw [nameE, if_pos hk1, lname_turn, if_neg (by rw [hq.1.2.2.2.1]; decide)]
        · rw [if_neg hq]
          by_cases hq' : V.picks (ags.map turn) (turnE e) (turnE k) (turnL a)
          · have hq2 := hp.1 hq'
            have hb := hq2.2.2.2.2
            have hb1 : a.body.kind = 1 := by unfold V.plainB at hb; simp at hb; exact hb.1
            have hl : V.lastAt (turnL a).vars (turnL a).body.name (turnL a).vars.length = V.lastAt a.vars a.body.name a.vars.length := by
              rw [varsL, bodyL, nameE, if_pos hb1, List.length_map, lastAt_turn]
            rw [if_neg (fun h => hq ⟨hq2, by rw [← hl]; exact h.2⟩)]
            exact h0
          · rw [if_neg (fun h => hq' h.1)]
            exact h0
theorem classOf_turn (ags : List ByteArray) (e : Exp) : classOf (ags.map turn) (turnE e) = classOf ags e := by
  unfold classOf
  rw [fieldOf_turn, List.length_map, kindE]
theorem preM_turn : ∀ bs : List Bind, preM (turnBs bs) = preM bs
  | [] => rfl
  | b :: bs => by simp only [turnBs, preM, argsB, bodyB, classOf_turn, atomsE, nums_turn, preM_turn bs]
theorem freeB_turn (b : Bind) : freeB (turnB b) = (freeB b).map turn := by unfold freeB; rw [bodyB, argsB, within_turn, lessL_turn]
theorem infoS_turn (s : Sc) (f : Frm) (need : List ByteArray) : infoS (turnS s) (turnF f) (need.map turn) = turnS (infoS s f need) := by
  simp [infoS, turnS, turnF]
theorem stepM_turn (C : Env) (inn : List ByteArray) (t : Grp) (b : Bind) : stepM (turnC C) (inn.map turn) ⟨t.makes, t.frm, turnS t.s⟩ (turnB b) = ⟨(stepM C inn t b).makes, (stepM C inn t b).frm, turnS (stepM C inn t b).s⟩ := by
  unfold stepM
  rw [argsB, bodyB, classOf_turn, atomsE, fieldOf_turn, nE, freeB_turn, here_turn, places_turn, nums_turn, atomsP_turn, place_turn]
  by_cases h1 : classOf b.args b.body = 1
  · obtain ⟨_, hk⟩ := N.class1 h1
    rw [if_pos h1, if_pos h1, nameE, if_neg (by omega)]; rfl
  rw [if_neg h1, if_neg h1]
  split
  · rfl
  split
  · rfl
  · simp only [← infoS_turn]; rfl
theorem foldM_turn (C : Env) (inn : List ByteArray) : ∀ (bs : List Bind) (t : Grp), (bs.map turnB).foldl (stepM (turnC C) (inn.map turn)) ⟨t.makes, t.frm, turnS t.s⟩ = ⟨(bs.foldl (stepM C inn) t).makes, (bs.foldl (stepM C inn) t).frm, turnS (bs.foldl (stepM C inn) t).s⟩
  | [], t => rfl
  | b :: bs, t => by simp only [List.map_cons, List.foldl_cons]; rw [stepM_turn, foldM_turn C inn bs]
theorem letIn_turn (bs : List Bind) (l : List ByteArray) : letIn (turnBs bs) (l.map turn) = (letIn bs l).map turn := by
  unfold letIn
  rw [preM_turn, turnBs_map, names_turn]
  simp [blanks_turn]
theorem letM_turn (C : Env) (bs : List Bind) (l : List ByteArray) (s : Sc) : letM (turnC C) (turnBs bs) (l.map turn) (turnS s) = ⟨(letM C bs l s).makes, (letM C bs l s).frm, turnS (letM C bs l s).s⟩ := by
  unfold letM
  rw [letIn_turn, preM_turn, List.length_map, turnBs_map]
  exact foldM_turn C (letIn bs l) bs ⟨preM bs, l.length, s⟩
theorem ownA_turn (a : Alt) : ownA (turnL a).kind (turnL a).name (turnL a).vars = (ownA a.kind a.name a.vars).map turn := by
  unfold ownA
  rw [kind_turn, lname_turn, varsL]
  split
  · rfl
  · split
    · rfl
    · rfl
theorem keep1_turn (own keep : List ByteArray) (s : ByteArray) : keep1 (own.map turn) (keep.map turn) (turn s) = (keep1 own keep s).map turn := by
  unfold keep1
  rw [findL_turn, findL_turn]
  split
  · rfl
  · simp
theorem keepF_turn (own : List ByteArray) : ∀ (l keep : List ByteArray), (l.map turn).foldl (keep1 (own.map turn)) (keep.map turn) = (l.foldl (keep1 own) keep).map turn
  | [], keep => rfl
  | x :: l, keep => by simp only [List.map_cons, List.foldl_cons]; rw [keep1_turn, keepF_turn own l]
theorem keepA_turn (l keep : List ByteArray) (a : Alt) : keepA (l.map turn) (keep.map turn) (turnL a) = (keepA l keep a).map turn := by
  unfold keepA
  rw [ownA_turn, bodyL, within_turn, here_turn, keepF_turn]
theorem keepLF_turn (l : List ByteArray) : ∀ (ls : List Alt) (keep : List ByteArray), (ls.map turnL).foldl (keepA (l.map turn)) (keep.map turn) = (ls.foldl (keepA l) keep).map turn
  | [], keep => rfl
  | x :: ls, keep => by simp only [List.map_cons, List.foldl_cons]; rw [keepA_turn, keepLF_turn l ls]
theorem keepL_turn (l : List ByteArray) (ls : List Alt) : keepL (l.map turn) (turnLs ls) = (keepL l ls).map turn := by
  rw [turnLs_map]; exact keepLF_turn l ls []
theorem armIn_turn (keep : List ByteArray) (k : Int) (s : ByteArray) (vs : List ByteArray) : armIn (keep.map turn) k (if k = 3 then turn s else s) (vs.map turn) = (armIn keep k s vs).map turn := by
  unfold armIn
  by_cases h1 : k = 1
  · rw [if_pos h1, if_pos h1]; simp [turn_nil]
  rw [if_neg h1, if_neg h1]
  by_cases h3 : k = 3
  · rw [if_pos h3, if_pos h3, if_pos h3]; simp
  · rw [if_neg h3, if_neg h3]; simp [turn_nil]
theorem intsS_turn (s : Sc) (ats : List (ByteArray × Int)) (b : Int) : intsS (turnS s) (ats.map turnA) b = turnS (intsS s ats b) := by
  unfold intsS
  rw [nums_turn]
  split <;> rfl
theorem conM_turn (C : Env) (nm : ByteArray) (ats : List (ByteArray × Int)) (l : List ByteArray) : conM (turnC C) nm (ats.map turnA) (l.map turn) = conM C nm ats l := by
  unfold conM
  rw [nums_turn, atomsP_turn, List.length_map]; rfl
mutual
theorem layE_turn (C : Env) : ∀ (e : Exp) (l : List ByteArray) (s : Sc), layE (turnC C) (turnE e) (l.map turn) (turnS s) = turnS (layE C e l s)
  | .mk k a nm n ats bs es ls, l, s => by
    simp only [turnE, layE]
    have hA : (ats.map fun x => (turn x.1, x.2)) = ats.map turnA := rfl
    rw [hA]
    by_cases hb : s.big = true
    · rw [if_pos hb, if_pos (show (turnS s).big = true from hb)]
    rw [if_neg hb, if_neg (show ¬ (turnS s).big = true from hb), List.length_map]
    by_cases k4 : k = 4
    · rw [if_pos k4, if_pos k4]; rfl
    rw [if_neg k4, if_neg k4]
    by_cases k2 : k = 2
    · rw [if_pos k2, if_pos k2, if_neg (by omega), conM_turn]; rfl
    rw [if_neg k2, if_neg k2]
    by_cases k1 : k = 1
    · rw [if_pos k1, if_pos k1, if_pos k1, intsS_turn, place_turn, nums_turn, atomsP_turn]; rfl
    rw [if_neg k1, if_neg k1, if_neg k1]
    by_cases k3 : k = 3
    · rw [if_pos k3, if_pos k3, intsS_turn, nums_turn, atomsP_turn]; rfl
    rw [if_neg k3, if_neg k3]
    by_cases k5 : k = 5
    · rw [if_pos k5, if_pos k5, letIn_turn, letM_turn]
      exact layKid_turn C es (letIn bs l) (putS (letM C bs l s).s (insL (↑l.length) (letM C bs l s).makes))
    rw [if_neg k5, if_neg k5]
    by_cases k6 : k = 6
    · rw [if_pos k6, if_pos k6]
      have h1 : caseS (turnC C) (turnEs es) (turnLs ls) (l.map turn) (turnS s) = turnS (caseS C es ls l s) := by
        unfold caseS
        rw [withinKid_turn, here_turn, places_turn, keepL_turn, places_turn, List.length_map]; rfl
      have h2 := layKid_turn C es (here l (withinKid es)) (caseS C es ls l s)
      have h3 := layAlts_turn C (keepL l ls) ls ⟨[], armsS (layKid C es (here l (withinKid es)) (caseS C es ls l s)) s.ins.length (keepL l ls)⟩
      rw [h1, withinKid_turn, here_turn, h2, keepL_turn]
      have h4 : armsS (turnS (layKid C es (here l (withinKid es)) (caseS C es ls l s))) (turnS s).ins.length ((keepL l ls).map turn) = turnS (armsS (layKid C es (here l (withinKid es)) (caseS C es ls l s)) s.ins.length (keepL l ls)) := by
        unfold armsS
        rw [List.length_map]; rfl
      rw [h4, h3]; rfl
    · rw [if_neg k6, if_neg k6]
theorem layKid_turn (C : Env) : ∀ (es : List Exp) (l : List ByteArray) (s : Sc), layKid (turnC C) (turnEs es) (l.map turn) (turnS s) = turnS (layKid C es l s)
  | [], l, s => rfl
  | e :: es, l, s => by simp only [turnEs, layKid]; exact layE_turn C e l s
theorem layAlt_turn (C : Env) : ∀ (keep : List ByteArray) (a : Alt) (t : Ars), layAlt (turnC C) (keep.map turn) (turnL a) ⟨t.arms, turnS t.s⟩ = ⟨(layAlt C keep a t).arms, turnS (layAlt C keep a t).s⟩
  | keep, .mk k a nm n vs e, t => by
    simp only [turnL, layAlt]
    rw [armIn_turn, layE_turn C e]
    have : (if k = 1 then conD (turnC C).ds (if k = 3 then turn nm else nm) else 0) = if k = 1 then conD C.ds nm else 0 := by
      by_cases h : k = 1
      · rw [if_pos h, if_pos h, if_neg (by omega)]; rfl
      · rw [if_neg h, if_neg h]
    rw [this]; rfl
theorem layAlts_turn (C : Env) : ∀ (keep : List ByteArray) (ls : List Alt) (t : Ars), layAlts (turnC C) (keep.map turn) (turnLs ls) ⟨t.arms, turnS t.s⟩ = ⟨(layAlts C keep ls t).arms, turnS (layAlts C keep ls t).s⟩
  | keep, [], t => rfl
  | keep, a :: ls, t => by
    simp only [turnLs, layAlts]
    rw [layAlt_turn C keep a t]
    exact layAlts_turn C keep ls (layAlt C keep a t)
end
theorem runQ_turn {C : Env} {i : Nat} {s t : Sc} (h : RunQ C i s t) : RunQ (turnC C) i (turnS s) (turnS t) := by
  induction h with
  | stop hn => exact .stop (fun h => hn ⟨by simpa [turnS] using h.1, h.2⟩)
  | @step i s s' f need hb hf hn hr ih =>
    refine .step (turnF f) (need.map turn) hb (by simp [turnS, hf]) (by simp [turnS, hn]) ?_
    have : stepQ (turnC C) i (turnF f) (need.map turn) (turnS s) = turnS (stepQ C i f need s) := by
      unfold stepQ
      show layE (turnC C) (turnE f.2) (f.1.map turn ++ need.map turn) (turnS (setTo s i s.ins.length)) = _
      rw [← List.map_append, layE_turn]
    rw [this]
    exact ih
theorem begins_turn (bs : List Bind) : begins (turnBs bs) = turnS (begins bs) := by
  have key : ∀ (l : List Bind) (s : Sc), (l.map turnB).foldl (fun s b => infoS s (b.args, b.body) []) (turnS s) = turnS (l.foldl (fun s b => infoS s (b.args, b.body) []) s) := by
    intro l
    induction l with
    | nil => intro s; rfl
    | cons b l ih =>
      intro s
      simp only [List.map_cons, List.foldl_cons]
      rw [← ih]
      congr 1
      rw [argsB, bodyB]
      exact infoS_turn s (b.args, b.body) []
  rw [turnBs_map]
  exact key bs ⟨[], [], [], [], false⟩
theorem globs_turn : ∀ (bs : List Bind) (k : Nat), globs (turnBs bs) k = (globs bs k).map turnA
  | [], k => rfl
  | b :: bs, k => by simp only [turnBs, globs, List.map_cons, name_turn, globs_turn bs]
theorem env_turn (ds : List Dat) (bs : List Bind) : env ds (turnBs bs) = turnC (env ds bs) := by
  show (⟨ds, (turnBs bs).map Bind.name⟩ : Env) = ⟨ds, (bs.map Bind.name).map turn⟩
  rw [turnBs_map, names_turn]
theorem compiles_turn {ds : List Dat} {bs : List Bind} {c : Cd} {a e : Int} (h : Compiles ds bs c a e) : Compiles ds (turnBs bs) { c with globals := c.globals.map turnA } a e := by
  unfold Compiles at h ⊢
  rw [check_turn]
  split at h
  · rename_i he
    rw [if_pos he]
    obtain ⟨s, h1, h2, h3⟩ := h
    refine ⟨turnS s, by rw [env_turn, begins_turn]; exact runQ_turn h1, h2, ?_⟩
    split at h3
    · rename_i hb
      rw [if_pos (show (turnS s).big = true from hb)]
      obtain ⟨rfl, h4⟩ := h3
      exact ⟨rfl, h4⟩
    · rename_i hb
      rw [if_neg (show ¬ (turnS s).big = true from hb)]
      obtain ⟨rfl, h4⟩ := h3
      refine ⟨?_, h4⟩
      show (⟨_, (globs bs 0).map turnA, _, _⟩ : Cd) = ⟨_, globs (turnBs bs) 0, _, _⟩
      rw [globs_turn]; rfl
  · rename_i he
    rw [if_neg he]
    obtain ⟨rfl, h4⟩ := h
    exact ⟨rfl, h4⟩
end Go.Proofs.YtoepmdbicdoieaaDoor.M
