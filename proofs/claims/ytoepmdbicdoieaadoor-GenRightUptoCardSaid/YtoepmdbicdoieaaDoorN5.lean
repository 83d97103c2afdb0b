/- The code of a right program is right. -/
import Derived.Test.YtoepmdbicdoieaaDoorN4
namespace Go.Proofs.YtoepmdbicdoieaaDoor.N
open Go Go.Eng Go.Proofs Go.Proofs.YtoepmdbicdoieaaDoor.T Go.Proofs.YtoepmdbicdoieaaDoor.K Go.Proofs.YtoepmdbicdoieaaDoor.U
open V (lessL onceL atomsL within withinB withinL withinBs withinKid withinLs classOf fieldOf inner)
open W (findL_has)
set_option linter.unusedSimpArgs false
set_option linter.unusedVariables false
/-- A place is one, with so many globals and locals. -/
def Ins1 (g : Nat) (loc x : Int) : Prop := x < loc ∧ -(g : Int) ≤ x
def MkOK (c : Cd) (loc : Int) (k : Mk) : Prop :=
  (k.kind = 2 ∧ k.frm = [] ∨
   k.kind = 1 ∧ (∃ i : Nat, ∃ x, k.info = i ∧ c.cons[i]? = some x ∧ x.2 = k.frm.length) ∨
   k.kind = 7 ∧ k.frm.length = 1 ∧ (∃ i : Nat, ∃ x, k.info = i ∧ c.cons[i]? = some x ∧ 0 ≤ k.n ∧ k.n < x.2) ∨
   (k.kind = 3 ∨ k.kind = 6) ∧ ∃ i : Nat, ∃ x, k.info = i ∧ c.infos[i]? = some x ∧ x.kind = k.kind ∧ x.free = k.frm.length) ∧
  ∀ y ∈ k.frm, Ins1 c.globals.length loc y
def ArmOK (c : Cd) (b : Int) (a : Arm) : Prop :=
  ∃ i : Nat, ∃ j, a.to = i ∧ c.ins[i]? = some j ∧
  (a.kind = 1 ∧ (∃ m : Nat, ∃ x, a.con = m ∧ c.cons[m]? = some x ∧ j.b = b + x.2) ∨ (a.kind = 2 ∨ a.kind = 3) ∧ j.b = b)
def InsOK (c : Cd) (at_ : Nat) (i : Ins) : Prop :=
  0 ≤ i.b ∧ i.b + i.makes.length ≤ 1000 ∧
  (i.op = 1 ∧ i.makes ≠ [] ∧ (∀ k ∈ i.makes, MkOK c (i.b + i.makes.length) k) ∧ (∃ j, c.ins[at_ + 1]? = some j ∧ j.b = i.b + i.makes.length) ∨
   i.op = 2 ∧ i.list.length ≤ 8 ∧ (∀ y ∈ i.list, Ins1 c.globals.length i.b y) ∧ Ins1 c.globals.length i.b i.a ∨
   i.op = 3 ∧ Ins1 c.globals.length i.b i.a ∨
   i.op = 4 ∧ (∀ y ∈ i.list, Ins1 c.globals.length i.b y) ∧ (∀ y ∈ i.keep, Ins1 c.globals.length i.b y) ∧ (∃ j, c.ins[at_ + 1]? = some j ∧ j.b = i.list.length) ∧ (∃ m : Nat, ∃ j, i.a = m ∧ c.ins[m]? = some j ∧ j.op = 5 ∧ j.b = i.keep.length + 1) ∨
   i.op = 5 ∧ 1 ≤ i.b ∧ i.arms ≠ [] ∧ (∀ a ∈ i.arms, ArmOK c i.b a) ∨
   i.op = 6 ∧ 1 ≤ i.a ∧ i.a ≤ 16 ∧ i.list.length = arityP i.a ∧ ∀ y ∈ i.list, Ins1 c.globals.length i.b y)
/-- A code that holds what is laid from some place on. -/
structure FinC (C : Env) (f : Cd) (t : Sc) (lo : Nat) : Prop where
  cons : f.cons = C.ds.map fun d => (d.name, d.arity)
  globals : f.globals.length = C.tops.length
  ins : ∀ i, lo ≤ i → i < t.ins.length → f.ins[i]? = t.ins[i]?
  infos : ∀ (i : Nat) v, t.infos[i]? = some v → ∃ w, f.infos[i]? = some w ∧ w.kind = v.kind ∧ w.arity = v.arity ∧ w.free = v.free
abbrev Wt := Frm × List ByteArray
def infOf (p : Wt) : Inf := ⟨if p.1.1.length = 0 then 6 else 3, p.1.1.length, p.2.length, 0⟩
def WtOK (ds : List Dat) (p : Wt) : Prop := p.1.1.length ≤ 8 ∧ p.2.length ≤ 255 ∧ ∃ inn, ¬ (⟨#[]⟩ : ByteArray) ∈ inn ∧ Rt ds inn p.1.2
def Grow (ds : List Dat) (s t : Sc) : Prop := ∃ w : List Wt, t.infos = s.infos ++ w.map infOf ∧ t.forms = s.forms ++ w.map Prod.fst ∧ t.needs = s.needs ++ w.map Prod.snd ∧ ∀ p ∈ w, WtOK ds p
theorem Grow.refl (ds : List Dat) (s : Sc) : Grow ds s s := ⟨[], by simp, by simp, by simp, fun _ h => nomatch h⟩
theorem Grow.trans {ds : List Dat} {s t u : Sc} : Grow ds s t → Grow ds t u → Grow ds s u
  | ⟨w, a1, a2, a3, a4⟩, ⟨v, b1, b2, b3, b4⟩ => ⟨w ++ v, by simp [b1, a1], by simp [b2, a2], by simp [b3, a3], fun p hp => (List.mem_append.1 hp).elim (a4 p) (b4 p)⟩
theorem Grow.put {ds : List Dat} (s : Sc) (i : Ins) : Grow ds s (putS s i) := Grow.refl ds s
theorem Grow.at {ds : List Dat} {s t : Sc} {i : Nat} {v : Inf} : Grow ds s t → s.infos[i]? = some v → t.infos[i]? = some v
  | ⟨w, a1, _⟩, h => by rw [a1, List.getElem?_append_left (List.getElem?_eq_some_iff.1 h).1, h]
structure Laid (C : Env) (b : Int) (s t : Sc) : Prop where
  grow : Grow C.ds s t
  pre : ∀ i, i < s.ins.length → t.ins[i]? = s.ins[i]?
  first : ∃ x, t.ins[s.ins.length]? = some x ∧ x.b = b
  ok : ∀ f, FinC C f t s.ins.length → ∀ i x, s.ins.length ≤ i → t.ins[i]? = some x → InsOK f i x
theorem Laid.lt {C : Env} {b : Int} {s t : Sc} (h : Laid C b s t) : s.ins.length < t.ins.length := by
  obtain ⟨x, hx, _⟩ := h.first
  exact (List.getElem?_eq_some_iff.1 hx).1
theorem put_at (s : Sc) (i : Ins) : (putS s i).ins[s.ins.length]? = some i := by simp [putS]
theorem put_len (s : Sc) (i : Ins) : (putS s i).ins.length = s.ins.length + 1 := by simp [putS]
theorem put_pre (s : Sc) (i : Ins) {k : Nat} (h : k < s.ins.length) : (putS s i).ins[k]? = s.ins[k]? := by simp [putS, List.getElem?_append_left h]
theorem Laid.last {C : Env} {s : Sc} {i : Ins} {b : Int} (hb : i.b = b) (h : ∀ f, FinC C f (putS s i) s.ins.length → InsOK f s.ins.length i) : Laid C b s (putS s i) :=
  ⟨Grow.put s i, fun k hk => put_pre s i hk, ⟨i, put_at s i, hb⟩, fun f hf k x hk hx => by
    have : k = s.ins.length := by have := (List.getElem?_eq_some_iff.1 hx).1; rw [put_len] at this; omega
    subst this
    rw [put_at] at hx
    cases hx
    exact h f hf⟩
theorem Laid.then {C : Env} {s t : Sc} {i : Ins} {b b' : Int} (hb : i.b = b) (h : Laid C b' (putS s i) t)
    (hi : ∀ f, FinC C f t s.ins.length → (∃ j, f.ins[s.ins.length + 1]? = some j ∧ j.b = b') → InsOK f s.ins.length i) : Laid C b s t := by
  have hl := put_len s i
  have ht := h.lt
  obtain ⟨x, hx, hxb⟩ := h.first
  refine ⟨h.grow, fun k hk => by rw [h.pre k (by omega), put_pre s i hk], ⟨i, by rw [h.pre _ (by omega), put_at], hb⟩, fun f hf k y hk hy => ?_⟩
  by_cases hk' : k = s.ins.length
  · subst hk'
    rw [h.pre _ (by omega), put_at] at hy
    cases hy
    refine hi f hf ⟨x, ?_, hxb⟩
    rw [← hl, hf.ins _ (by omega) (by omega), hx]
  · exact h.ok f ⟨hf.cons, hf.globals, fun i hi => hf.ins i (by omega), hf.infos⟩ k y (by omega) hy
theorem Laid.after {C : Env} {s s' t : Sc} {b : Int} (hg : Grow C.ds s s') (he : s'.ins = s.ins) (h : Laid C b s' t) : Laid C b s t := by
  obtain ⟨h1, h2, h3, h4⟩ := h
  rw [he] at h2 h3 h4
  exact ⟨hg.trans h1, h2, h3, h4⟩
/-! What names stand for -/
theorem findL_lt : ∀ (l : List ByteArray) (s : ByteArray), findL l s < l.length
  | [], s => by simp [findL]
  | x :: l, s => by
    have := findL_lt l s
    simp only [findL, List.length_cons]
    split
    · omega
    · split <;> omega
theorem place_in {C : Env} {l : List ByteArray} {s : ByteArray} (h : Known C l s) {loc : Int} (hl : (l.length : Int) ≤ loc) : Ins1 C.tops.length loc (place C l s) := by
  have h1 := findL_lt l s
  have h2 := findL_lt C.tops s
  unfold place
  split
  · exact ⟨by omega, by omega⟩
  · rename_i hn
    have : s ∈ C.tops := by
      rcases h.2 with h | h
      · exact absurd ((findL_has l s).2 h) hn
      · exact h
    have h3 := (findL_has C.tops s).2 this
    exact ⟨by omega, by omega⟩
theorem here_ins {C : Env} {l names : List ByteArray} {loc : Int} (hl : (l.length : Int) ≤ loc) : ∀ y ∈ (here l names).map (place C l), Ins1 C.tops.length loc y := by
  intro y hy
  obtain ⟨s, hs, rfl⟩ := List.mem_map.1 hy
  have h0 : 0 ≤ findL l s := by simpa using (List.mem_filter.1 hs).2
  have h1 := findL_lt l s
  unfold place
  rw [if_pos h0]
  exact ⟨by omega, by omega⟩
theorem keep_sub {l : List ByteArray} {own : List ByteArray} {names : List ByteArray} : ∀ {keep : List ByteArray} {s : ByteArray}, s ∈ names.foldl (keep1 own) keep → s ∈ keep ∨ s ∈ names := by
  induction names with
  | nil => intro keep s h; exact .inl h
  | cons x r ih =>
    intro keep s h
    rcases ih h with h | h
    · unfold keep1 at h
      split at h
      · exact .inl h
      · rcases List.mem_append.1 h with h | h
        · exact .inl h
        · exact .inr (by simp at h; simp [h])
    · exact .inr (List.mem_cons_of_mem _ h)
theorem keepF_sub {l : List ByteArray} : ∀ {ls : List Alt} {keep : List ByteArray} {s : ByteArray}, s ∈ ls.foldl (keepA l) keep → s ∈ keep ∨ 0 ≤ findL l s
  | [], keep, s, h => .inl h
  | a :: ls, keep, s, h => by
    rcases keepF_sub (ls := ls) h with h | h
    · rcases keep_sub (l := l) h with h | h
      · exact .inl h
      · exact .inr (by simpa using (List.mem_filter.1 h).2)
    · exact .inr h
theorem keepL_ins {C : Env} {l : List ByteArray} {ls : List Alt} {loc : Int} (hl : (l.length : Int) ≤ loc) : ∀ y ∈ (keepL l ls).map (place C l), Ins1 C.tops.length loc y := by
  intro y hy
  obtain ⟨s, hs, rfl⟩ := List.mem_map.1 hy
  have h0 : 0 ≤ findL l s := (keepF_sub hs).resolve_left (fun h => nomatch h)
  have h1 := findL_lt l s
  unfold place
  rw [if_pos h0]
  exact ⟨by omega, by omega⟩
theorem nums_kind : ∀ {ats : List (ByteArray × Int)} {k : Mk}, k ∈ nums ats → k.kind = 2 ∧ k.frm = []
  | [], k, h => nomatch h
  | a :: l, k, h => by
    simp only [nums] at h
    split at h
    · rcases List.mem_cons.1 h with rfl | h
      · exact ⟨rfl, rfl⟩
      · exact nums_kind h
    · exact nums_kind h
theorem atoms_len (C : Env) (l : List ByteArray) : ∀ (ats : List (ByteArray × Int)) (k : Int), (atomsP C l ats k).length = ats.length
  | [], k => rfl
  | a :: r, k => by simp only [atomsP]; split <;> simp [atoms_len C l r]
theorem atoms_ins {C : Env} {l : List ByteArray} {loc : Int} : ∀ {ats : List (ByteArray × Int)} {k : Int}, KnownA C l ats → (l.length : Int) ≤ loc → 0 ≤ k → k + (nums ats).length ≤ loc → ∀ y ∈ atomsP C l ats k, Ins1 C.tops.length loc y
  | [], k, _, _, _, _, y, h => nomatch h
  | a :: r, k, hk, hl, h0, hn, y, h => by
    have hr : KnownA C l r := fun a' h' => hk a' (List.mem_cons_of_mem _ h')
    simp only [atomsP] at h
    simp only [nums] at hn
    split at h
    · rename_i e
      rw [if_pos e, List.length_cons] at hn
      rcases List.mem_cons.1 h with rfl | h
      · exact ⟨by omega, by omega⟩
      · exact atoms_ins hr hl (by omega) (by omega) y h
    · rename_i e
      rw [if_neg e] at hn
      rcases List.mem_cons.1 h with rfl | h
      · exact place_in (hk a List.mem_cons_self e) hl
      · exact atoms_ins hr hl h0 hn y h
theorem conD_at : ∀ {ds : List Dat} {s : ByteArray} {n : Int}, arityD ds s = some n → ∃ i : Nat, ∃ x, conD ds s = i ∧ (ds.map fun d => (d.name, d.arity))[i]? = some x ∧ x.2 = n
  | [], s, n, h => nomatch h
  | d :: ds, s, n, h => by
    simp only [arityD] at h
    simp only [conD]
    split at h
    · rename_i e
      rw [if_pos e]
      exact ⟨0, _, rfl, rfl, Option.some.inj h⟩
    · rename_i e
      obtain ⟨i, x, h1, h2, h3⟩ := conD_at h
      have ha : ds.any (fun x => decide (x.name = s)) = true := by
        have : i < (ds.map fun d => (d.name, d.arity)).length := (List.getElem?_eq_some_iff.1 h2).1
        clear h1 h2 h3 this
        induction ds with
        | nil => exact nomatch h
        | cons d2 r ih =>
          simp only [arityD] at h
          split at h
          · rename_i e2; simp [e2]
          · simp only [List.any_cons, Bool.or_eq_true]; exact .inr (ih h)
      rw [if_neg e, if_pos ha]
      exact ⟨i + 1, x, by rw [h1]; simp, by simpa using h2, h3⟩
theorem findP_le (s : ByteArray) : 0 ≤ findP s ∧ findP s ≤ 16 := by
  unfold findP
  split
  · rename_i i hi
    obtain ⟨hlt, _⟩ := List.findIdx?_eq_some_iff_getElem.1 hi
    have : pnames.length = 16 := by decide
    omega
  · omega
theorem class36 {ags : List ByteArray} {e : Exp} (h1 : ¬ classOf ags e = 1) (h2 : ¬ classOf ags e = 2) (h7 : ¬ classOf ags e = 7) : classOf ags e = if ags.length = 0 then 6 else 3 := by
  unfold classOf at *
  split at h1
  · rename_i h; rw [if_pos h, if_neg (by omega)]
  · rename_i h
    rw [if_neg h] at h2 h7
    rw [if_neg h]
    split at h1
    · exact absurd rfl h1
    · rename_i h'
      rw [if_neg h'] at h2 h7 ⊢
      split at h2
      · exact absurd rfl h2
      · rename_i h''
        rw [if_neg h''] at h7 ⊢
        split at h7
        · exact absurd rfl h7
        · rename_i h3; rw [if_neg h3, if_pos (by omega)]
theorem put_big {s : Sc} {i : Ins} (h : (putS s i).big = false) : s.big = false ∧ i.b + i.makes.length ≤ 1000 := by
  simp only [putS, Bool.or_eq_false_iff, decide_eq_false_iff_not] at h
  exact ⟨h.1, by omega⟩
theorem layE_big {C : Env} {e : Exp} {l : List ByteArray} {s : Sc} (h : s.big = true) : layE C e l s = s := by cases e; simp only [layE]; rw [if_pos h]
theorem layE_was {C : Env} {e : Exp} {l : List ByteArray} {s : Sc} (h : (layE C e l s).big = false) : s.big = false := by
  cases hb : s.big with
  | false => rfl
  | true => rw [layE_big hb, hb] at h; exact h
theorem layKid_was {C : Env} : ∀ {es : List Exp} {l : List ByteArray} {s : Sc}, (layKid C es l s).big = false → s.big = false
  | [], l, s, h => h
  | e :: es, l, s, h => layE_was h
theorem layAlts_was {C : Env} {keep : List ByteArray} : ∀ {ls : List Alt} {t : Ars}, (layAlts C keep ls t).s.big = false → t.s.big = false
  | [], t, h => h
  | .mk k a nm n vs e :: ls, t, h => by
    simp only [layAlts] at h
    have := layAlts_was (ls := ls) h
    simp only [layAlt] at this
    exact layE_was this
theorem stepM_was {C : Env} {inn : List ByteArray} {t : Grp} {b : Bind} (h : (stepM C inn t b).s.big = false) : t.s.big = false := by
  unfold stepM at h
  split at h
  · exact h
  · split at h
    · exact h
    · split at h
      · exact h
      · simp only [infoS, Bool.or_eq_false_iff] at h; exact h.1
theorem stepM_ins (C : Env) (inn : List ByteArray) (t : Grp) (b : Bind) : (stepM C inn t b).s.ins = t.s.ins := by
  unfold stepM
  split
  · rfl
  · split
    · rfl
    · split <;> rfl
/-- So far a group is laid. -/
structure GrpOK (C : Env) (inn : List ByteArray) (s : Sc) (t : Grp) : Prop where
  grow : Grow C.ds s t.s
  ins : t.s.ins = s.ins
  makes : ∀ f : Cd, f.cons = (C.ds.map fun d => (d.name, d.arity)) → f.globals.length = C.tops.length → (∀ (i : Nat) v, t.s.infos[i]? = some v → ∃ w, f.infos[i]? = some w ∧ w.kind = v.kind ∧ w.arity = v.arity ∧ w.free = v.free) → ∀ k ∈ t.makes, MkOK f inn.length k
theorem infos_grow {ds : List Dat} {f : Cd} {s t : Sc} (hg : Grow ds s t) (h : ∀ (i : Nat) v, t.infos[i]? = some v → ∃ w, f.infos[i]? = some w ∧ w.kind = v.kind ∧ w.arity = v.arity ∧ w.free = v.free) : ∀ (i : Nat) v, s.infos[i]? = some v → ∃ w, f.infos[i]? = some w ∧ w.kind = v.kind ∧ w.arity = v.arity ∧ w.free = v.free :=
  fun i v hv => h i v (hg.at hv)
theorem stepM_grp {C : Env} {inn nm : List ByteArray} {s : Sc} {t : Grp} {b : Bind} (h : GrpOK C inn s t) (hr : RtB C.ds nm b) (hnm : ¬ (⟨#[]⟩ : ByteArray) ∈ nm) (hk : okB C inn b) (hbig : (stepM C inn t b).s.big = false) (h0 : 0 ≤ t.frm)
    (hfrm : classOf b.args b.body = 1 → t.frm + (nums b.body.atoms).length ≤ inn.length) : GrpOK C inn s (stepM C inn t b) := by
  obtain ⟨h1, h2, h3⟩ := h
  rw [okB_eq'] at hk
  rw [rtB_eq] at hr
  obtain ⟨r1, r2, r3, r4⟩ := hr
  unfold stepM at hbig ⊢
  split
  · rename_i c1
    refine ⟨h1, h2, fun f e1 e2 e3 k hk' => ?_⟩
    rcases List.mem_append.1 hk' with hk' | hk'
    · exact h3 f e1 e2 e3 k hk'
    obtain rfl := List.mem_singleton.1 hk'
    obtain ⟨ha, hb⟩ := class1 c1
    rw [rt_eq] at r4
    obtain ⟨i, x, q1, q2, q3⟩ := conD_at (r4.2.2.1 hb).1
    refine ⟨.inr (.inl ⟨rfl, i, x, q1, by rw [e1]; exact q2, by rw [q3]; simp [atoms_len]⟩), fun y hy => ?_⟩
    rw [e2]
    exact atoms_ins (hk.1 c1) (Int.le_refl _) h0 (hfrm c1) y hy
  rename_i c1
  split
  · refine ⟨h1, h2, fun f e1 e2 e3 k hk' => ?_⟩
    rcases List.mem_append.1 hk' with hk' | hk'
    · exact h3 f e1 e2 e3 k hk'
    obtain rfl := List.mem_singleton.1 hk'
    exact ⟨.inl ⟨rfl, rfl⟩, fun _ h => nomatch h⟩
  rename_i c2
  split
  · rename_i c7
    refine ⟨h1, h2, fun f e1 e2 e3 k hk' => ?_⟩
    rcases List.mem_append.1 hk' with hk' | hk'
    · exact h3 f e1 e2 e3 k hk'
    obtain rfl := List.mem_singleton.1 hk'
    obtain ⟨ha, h6, kd, ks, al, w1, w2, w3, w4, w5, w6⟩ := class7 c7
    rw [rt_eq] at r4
    have hal := (r4.2.2.2.2.2 h6).2.2.2
    rw [w2] at hal
    simp only [RtLs] at hal
    rw [rtL_eq] at hal
    obtain ⟨i, x, q1, q2, q3⟩ := conD_at (hal.1.2.1 w4).1
    have hlt : ∀ n, n ≤ al.vars.length → V.lastAt al.vars al.body.name n < n := by
      intro n
      induction n with
      | zero => intro _; simp [V.lastAt]
      | succ n ih =>
        intro hn
        have := ih (by omega)
        simp only [V.lastAt]
        split <;> omega
    refine ⟨.inr (.inr (.inl ⟨rfl, rfl, i, x, by rw [w5]; exact q1, by rw [e1]; exact q2, by rw [w5]; exact w6, by rw [w5, q3]; exact hlt _ (Nat.le_refl _)⟩)), fun y hy => ?_⟩
    obtain rfl := List.mem_singleton.1 hy
    rw [e2]
    exact place_in (hk.2.1 c7) (Int.le_refl _)
  · rename_i c7
    rw [if_neg c1, if_neg c2, if_neg c7] at hbig
    have hfree : (here inn (freeB b)).length ≤ 255 := by
      simp only [infoS, Bool.or_eq_false_iff, decide_eq_false_iff_not] at hbig
      omega
    have hg : Grow C.ds t.s (infoS t.s (b.args, b.body) (here inn (freeB b))) := ⟨[((b.args, b.body), here inn (freeB b))], rfl, rfl, rfl, fun p hp => by
      obtain rfl := List.mem_singleton.1 hp
      exact ⟨r1, hfree, _, fun h => (List.mem_append.1 h).elim hnm r2, r4⟩⟩
    refine ⟨h1.trans hg, h2, fun f e1 e2 e3 k hk' => ?_⟩
    rcases List.mem_append.1 hk' with hk' | hk'
    · exact h3 f e1 e2 (infos_grow hg e3) k hk'
    obtain rfl := List.mem_singleton.1 hk'
    have hc := class36 c1 c2 c7
    obtain ⟨w, q1, q2, q3, q4⟩ := e3 t.s.infos.length (infOf ((b.args, b.body), here inn (freeB b))) (by simp [infoS, infOf])
    refine ⟨.inr (.inr (.inr ⟨?_, t.s.infos.length, w, rfl, q1, ?_, by rw [q4]; simp [infOf]⟩)), fun y hy => ?_⟩
    · show classOf b.args b.body = 3 ∨ classOf b.args b.body = 6
      rw [hc]; split <;> simp
    · rw [q2]; show _ = classOf b.args b.body; rw [hc]; rfl
    · rw [e2]; exact here_ins (Int.le_refl _) y hy
theorem preM_cons (b : Bind) (l : List Bind) : preM (b :: l) = if classOf b.args b.body = 1 then nums b.body.atoms ++ preM l else preM l := rfl
theorem foldM_was {C : Env} {inn : List ByteArray} : ∀ {bs : List Bind} {t : Grp}, (bs.foldl (stepM C inn) t).s.big = false → t.s.big = false
  | [], t, h => h
  | b :: bs, t, h => stepM_was (foldM_was (bs := bs) h)
theorem foldM_grp {C : Env} {inn nm : List ByteArray} {s : Sc} (hnm : ¬ (⟨#[]⟩ : ByteArray) ∈ nm) : ∀ (bs : List Bind) (t : Grp), GrpOK C inn s t → (∀ b ∈ bs, RtB C.ds nm b) → (∀ b ∈ bs, okB C inn b) → (bs.foldl (stepM C inn) t).s.big = false → 0 ≤ t.frm → t.frm + (preM bs).length ≤ inn.length → GrpOK C inn s (bs.foldl (stepM C inn) t) ∧ (bs.foldl (stepM C inn) t).makes.length = t.makes.length + bs.length
  | [], t, h, _, _, _, _, _ => ⟨h, rfl⟩
  | b :: bs, t, h, hr, hk, hbig, h0, hf => by
    have hw := foldM_was (bs := bs) hbig
    rw [preM_cons] at hf
    have h1 := stepM_grp h (hr b List.mem_cons_self) hnm (hk b List.mem_cons_self) hw h0 (fun c1 => by rw [if_pos c1, List.length_append] at hf; omega)
    have h2 : (stepM C inn t b).makes.length = t.makes.length + 1 := by
      unfold stepM
      split
      · simp
      · split
        · simp
        · split <;> simp
    have h3 : 0 ≤ (stepM C inn t b).frm ∧ (stepM C inn t b).frm + (preM bs).length ≤ inn.length := by
      unfold stepM
      split
      · rename_i c1; rw [if_pos c1, List.length_append] at hf; dsimp only; omega
      · rename_i c1
        rw [if_neg c1] at hf
        split
        · exact ⟨h0, hf⟩
        · split <;> exact ⟨h0, hf⟩
    obtain ⟨g1, g2⟩ := foldM_grp hnm bs _ h1 (fun b hb => hr b (List.mem_cons_of_mem _ hb)) (fun b hb => hk b (List.mem_cons_of_mem _ hb)) hbig h3.1 h3.2
    exact ⟨g1, by rw [List.foldl_cons, g2, h2, List.length_cons]; omega⟩
theorem preM_kind : ∀ {bs : List Bind} {k : Mk}, k ∈ preM bs → k.kind = 2 ∧ k.frm = []
  | [], k, h => nomatch h
  | b :: l, k, h => by
    rw [preM_cons] at h
    split at h
    · exact (List.mem_append.1 h).elim nums_kind preM_kind
    · exact preM_kind h
theorem mk_num {f : Cd} {loc : Int} {k : Mk} (h : k.kind = 2 ∧ k.frm = []) : MkOK f loc k := ⟨.inl h, by rw [h.2]; exact fun _ h => nomatch h⟩
end Go.Proofs.YtoepmdbicdoieaaDoor.N
