/- The code of a right program is right: all that waits. -/
import Derived.Test.YtoepmdbicdoieaaDoorN6
namespace Go.Proofs.YtoepmdbicdoieaaDoor.N
open Go Go.Eng Go.Proofs Go.Proofs.YtoepmdbicdoieaaDoor.T Go.Proofs.YtoepmdbicdoieaaDoor.K Go.Proofs.YtoepmdbicdoieaaDoor.U
open V (lessL onceL atomsL within withinB withinL withinBs withinKid withinLs classOf fieldOf inner)
open W (findL_has)
set_option linter.unusedSimpArgs false
set_option linter.unusedVariables false
structure InvQ (C : Env) (bs : List Bind) (i : Nat) (s : Sc) : Prop where
  fl : s.forms.length = s.infos.length
  nl : s.needs.length = s.infos.length
  all : AllOk C s
  each : ∀ (j : Nat) v, s.infos[j]? = some v → ∃ p : Wt, s.forms[j]? = some p.1 ∧ s.needs[j]? = some p.2 ∧ v.kind = (infOf p).kind ∧ v.arity = (infOf p).arity ∧ v.free = (infOf p).free ∧ WtOK C.ds p
  tos : ∀ (j : Nat) v, j < i → s.infos[j]? = some v → ∃ (m : Nat) (x : Ins), v.to = m ∧ s.ins[m]? = some x ∧ x.b = v.arity + v.free
  ok : ∀ f, FinC C f s 0 → ∀ k x, s.ins[k]? = some x → InsOK f k x
  tops : ∀ (j : Nat) (b : Bind), bs[j]? = some b → s.forms[j]? = some (b.args, b.body) ∧ s.needs[j]? = some []
theorem runQ_was {C : Env} {i : Nat} {s t : Sc} (h : RunQ C i s t) (hb : t.big = false) : s.big = false := by
  cases h with
  | stop _ => exact hb
  | step f need h _ _ _ => exact h
theorem wt_ok {C : Env} {s : Sc} {i : Nat} {f : Frm} {d : List ByteArray} (h : AllOk C s) (h1 : s.forms[i]? = some f) (h2 : s.needs[i]? = some d) : okX C (f.1 ++ d) f.2 := by
  refine h.2 (f, d) (List.mem_of_getElem? (i := i) ?_)
  rw [List.getElem?_zip_eq_some]
  exact ⟨h1, h2⟩
theorem InvQ.step {C : Env} {bs : List Bind} {i : Nat} {s : Sc} {f : Frm} {need : List ByteArray} (h : InvQ C bs i s) (hf : s.forms[i]? = some f) (hn : s.needs[i]? = some need) (hb : (stepQ C i f need s).big = false) : InvQ C bs (i + 1) (stepQ C i f need s) := by
  have hok := wt_ok h.all hf hn
  have hil : i < s.infos.length := by rw [← h.fl]; exact (List.getElem?_eq_some_iff.1 hf).1
  obtain ⟨p, p1, p2, p3, p4, p5, p6⟩ := h.each i _ (List.getElem?_eq_getElem hil)
  rw [hf] at p1; rw [hn] at p2
  have hp : p = (f, need) := Prod.ext (Option.some.inj p1).symm (Option.some.inj p2).symm
  subst hp
  obtain ⟨w1, w2, inn, w3, w4⟩ := p6
  have hl := laidE C f.2 inn (f.1 ++ need) (setTo s i s.ins.length) w4 w3 hok hb
  have hlt := hl.lt
  have hall : AllOk C (stepQ C i f need s) := layE_ok C f.2 (f.1 ++ need) (setTo s i s.ins.length) hok h.all
  obtain ⟨w, g1, g2, g3, g4⟩ := hl.grow
  have g1' : (stepQ C i f need s).infos = (s.infos.modify i fun x => { x with to := s.ins.length }) ++ w.map infOf := g1
  have g2' : (stepQ C i f need s).forms = s.forms ++ w.map Prod.fst := g2
  have g3' : (stepQ C i f need s).needs = s.needs ++ w.map Prod.snd := g3
  have hml : (s.infos.modify i fun x => { x with to := (s.ins.length : Int) }).length = s.infos.length := by simp
  have hold : ∀ (j : Nat) (v : Inf), s.infos[j]? = some v → ∃ v' : Inf, (stepQ C i f need s).infos[j]? = some v' ∧ v'.kind = v.kind ∧ v'.arity = v.arity ∧ v'.free = v.free := fun j v hv => by
    have hj := (List.getElem?_eq_some_iff.1 hv).1
    rw [g1', List.getElem?_append_left (by omega), List.getElem?_modify, hv]
    by_cases e : i = j
    · exact ⟨{ v with to := s.ins.length }, by simp [e], rfl, rfl, rfl⟩
    · exact ⟨v, by simp [e], rfl, rfl, rfl⟩
  have hnew : ∀ (j : Nat) (v : Inf), j < s.infos.length → (stepQ C i f need s).infos[j]? = some v → ∃ v' : Inf, s.infos[j]? = some v' ∧ v = if i = j then { v' with to := (s.ins.length : Int) } else v' := fun j v hj hv => by
    rw [g1', List.getElem?_append_left (by omega), List.getElem?_modify, List.getElem?_eq_getElem hj] at hv
    refine ⟨_, List.getElem?_eq_getElem hj, ?_⟩
    by_cases e : i = j
    · simp [e] at hv; rw [if_pos e]; exact hv.symm
    · simp [e] at hv; rw [if_neg e]; exact hv.symm
  have hpre : ∀ k, k < s.ins.length → (stepQ C i f need s).ins[k]? = s.ins[k]? := hl.pre
  refine ⟨by rw [g1', g2']; simp [h.fl], by rw [g1', g3']; simp [h.nl], hall, fun j v hv => ?_, fun j v hj hv => ?_, fun c hc k x hx => ?_, fun j b hb => ?_⟩
  · by_cases hj : j < s.infos.length
    · obtain ⟨v', e1, e2⟩ := hnew j v hj hv
      obtain ⟨p, q1, q2, q3, q4, q5, q6⟩ := h.each j v' e1
      refine ⟨p, by rw [g2', List.getElem?_append_left (by have := h.fl; omega)]; exact q1, by rw [g3', List.getElem?_append_left (by have := h.nl; omega)]; exact q2, ?_, ?_, ?_, q6⟩ <;> (rw [e2]; split <;> assumption)
    · rw [g1', List.getElem?_append_right (by omega), hml, List.getElem?_map] at hv
      obtain ⟨p, hp, rfl⟩ := Option.map_eq_some_iff.1 hv
      refine ⟨p, ?_, ?_, rfl, rfl, rfl, g4 p (List.mem_of_getElem? hp)⟩
      · rw [g2', List.getElem?_append_right (by have := h.fl; omega), List.getElem?_map, h.fl, hp]; rfl
      · rw [g3', List.getElem?_append_right (by have := h.nl; omega), List.getElem?_map, h.nl, hp]; rfl
  · have hj' : j < s.infos.length := by omega
    obtain ⟨v', e1, e2⟩ := hnew j v hj' hv
    by_cases e : i = j
    · rw [if_pos e] at e2
      subst e2
      subst e
      obtain ⟨x, x1, x2⟩ := hl.first
      refine ⟨s.ins.length, x, rfl, x1, ?_⟩
      rw [x2]
      rw [List.getElem?_eq_getElem hil] at e1
      cases e1
      show _ = (s.infos[i]).arity + (s.infos[i]).free
      rw [p4, p5]
      simp [infOf]
    · rw [if_neg e] at e2
      subst e2
      obtain ⟨m, x, x1, x2, x3⟩ := h.tos j v (by omega) e1
      exact ⟨m, x, x1, by rw [hpre m (List.getElem?_eq_some_iff.1 x2).1]; exact x2, x3⟩
  · by_cases hk : k < s.ins.length
    · rw [hpre k hk] at hx
      refine h.ok c ⟨hc.cons, hc.globals, fun k _ hk => by rw [hc.ins k (Nat.zero_le _) (Nat.lt_trans hk hlt), hpre k hk], fun j v hv => ?_⟩ k x hx
      obtain ⟨v', a1, a2, a3, a4⟩ := hold j v hv
      obtain ⟨u, b1, b2, b3, b4⟩ := hc.infos j v' a1
      exact ⟨u, b1, by rw [b2, a2], by rw [b3, a3], by rw [b4, a4]⟩
    · exact hl.ok c ⟨hc.cons, hc.globals, fun k _ hk => hc.ins k (Nat.zero_le _) hk, hc.infos⟩ k x (by show s.ins.length ≤ k; omega) hx
  · obtain ⟨t1, t2⟩ := h.tops j b hb
    exact ⟨by rw [g2', List.getElem?_append_left (List.getElem?_eq_some_iff.1 t1).1]; exact t1, by rw [g3', List.getElem?_append_left (List.getElem?_eq_some_iff.1 t2).1]; exact t2⟩
def InfOK (c : Cd) (v : Inf) : Prop :=
  (v.kind = 3 ∧ 1 ≤ v.arity ∧ v.arity ≤ 8 ∨ v.kind = 6 ∧ v.arity = 0) ∧ 0 ≤ v.free ∧ v.free ≤ 255 ∧ ∃ m : Nat, ∃ x, v.to = m ∧ c.ins[m]? = some x ∧ x.b = v.arity + v.free
structure CodeOK (c : Cd) : Prop where
  cons : ∀ (i : Nat) x, c.cons[i]? = some x → 0 ≤ x.2 ∧ x.2 ≤ 8
  infos : ∀ (i : Nat) v, c.infos[i]? = some v → InfOK c v
  globals : ∀ (i : Nat) g, c.globals[i]? = some g → ∃ m : Nat, ∃ v, g.2 = m ∧ c.infos[m]? = some v ∧ v.free = 0
  ins : ∀ (i : Nat) x, c.ins[i]? = some x → InsOK c i x
theorem runQ_ok {C : Env} {bs : List Bind} {i : Nat} {s t : Sc} (h : RunQ C i s t) : InvQ C bs i s → t.big = false → ∃ n, InvQ C bs n t ∧ t.forms.length ≤ n := by
  induction h with
  | @stop i s hn => exact fun hI hb => ⟨i, hI, Nat.le_of_not_lt fun h => hn ⟨h, hb⟩⟩
  | @step i s s' f need hb hf hn hr ih => exact fun hI hb' => ih (hI.step hf hn (runQ_was hr hb')) hb'
theorem begins_infs (bs : List Bind) : (begins bs).infos = bs.map fun b => infOf ((b.args, b.body), []) := by
  have key : ∀ (l : List Bind) (s : Sc), (l.foldl (fun s b => infoS s (b.args, b.body) []) s).infos = s.infos ++ l.map fun b => infOf ((b.args, b.body), []) := by
    intro l
    induction l with
    | nil => intro s; simp
    | cons b l ih => intro s; simp only [List.foldl_cons, ih]; simp [infoS, infOf]
  simpa [begins] using key bs ⟨[], [], [], [], false⟩
theorem begins_inv {ds : List Dat} {bs : List Bind} (hR : RightP ds bs) (hW : W.Right ds bs) : InvQ (env ds bs) bs 0 (begins bs) := by
  obtain ⟨hbf1, hbf2, hbf3⟩ := W.begins_forms bs
  have hok0 : AllOk (env ds bs) (begins bs) := W.begins_ok hW.forms
  have hi : ¬ (⟨#[]⟩ : ByteArray) ∈ bs.map Bind.name := fun h => by obtain ⟨b, hb, e⟩ := List.mem_map.1 h; exact hR.names b hb e
  have hin : (begins bs).infos = bs.map fun b => infOf ((b.args, b.body), []) := begins_infs bs
  refine ⟨by rw [hbf1, hin]; simp, by rw [hbf2, hin]; simp, hok0, fun j v hv => ?_, fun j v hj => absurd hj (Nat.not_lt_zero _), fun f _ k x hx => ?_, fun j b hb => ?_⟩
  · rw [hin, List.getElem?_map] at hv
    obtain ⟨b, hb, rfl⟩ := Option.map_eq_some_iff.1 hv
    have hr := RtBs_mem hR.forms b (List.mem_of_getElem? hb)
    rw [rtB_eq] at hr
    refine ⟨((b.args, b.body), []), by rw [hbf1, List.getElem?_map, hb]; rfl, by rw [hbf2, List.getElem?_map, hb]; rfl, rfl, rfl, rfl, hr.1, by simp, _, fun h => (List.mem_append.1 h).elim hi hr.2.1, hr.2.2.2⟩
  · rw [hbf3] at hx; simp at hx
  · exact ⟨by rw [hbf1, List.getElem?_map, hb]; rfl, by rw [hbf2, List.getElem?_map, hb]; rfl⟩
theorem globs_at : ∀ (bs : List Bind) (k i : Nat) g, (globs bs k)[i]? = some g → ∃ b, bs[i]? = some b ∧ g = (b.name, ((k + i : Nat) : Int))
  | [], k, i, g, h => by simp [globs] at h
  | b :: l, k, 0, g, h => by simp [globs] at h; exact ⟨b, rfl, h.symm⟩
  | b :: l, k, i + 1, g, h => by
    simp only [globs, List.getElem?_cons_succ] at h
    obtain ⟨b', h1, h2⟩ := globs_at l (k + 1) i g h
    exact ⟨b', by simpa using h1, by rw [h2]; congr 2; omega⟩
theorem code_right {ds : List Dat} {bs : List Bind} {s : Sc} (h : (checkC ds bs).e = 0) (hrun : RunQ (env ds bs) 0 (begins bs) s) (hb : s.big = false) :
    CodeOK (codeOf ds bs s) ∧ ∀ (j : Nat) (b : Bind), bs[j]? = some b → ∃ v, s.infos[j]? = some v ∧ v.arity = b.args.length ∧ v.free = 0 := by
  have hR := right_of h
  obtain ⟨n, hI, hn⟩ := runQ_ok hrun (begins_inv hR (right_right h)) hb
  have hfin : FinC (env ds bs) (codeOf ds bs s) s 0 := ⟨rfl, by show (globs bs 0).length = (bs.map Bind.name).length; rw [W.globs_len, List.length_map], fun _ _ _ => rfl, fun i v hv => ⟨v, hv, rfl, rfl, rfl⟩⟩
  have htop : ∀ (j : Nat) (b : Bind), bs[j]? = some b → ∃ v, s.infos[j]? = some v ∧ v.arity = b.args.length ∧ v.free = 0 := fun j b hb => by
    obtain ⟨t1, t2⟩ := hI.tops j b hb
    have hj : j < s.infos.length := by rw [← hI.fl]; exact (List.getElem?_eq_some_iff.1 t1).1
    obtain ⟨p, p1, p2, p3, p4, p5, p6⟩ := hI.each j _ (List.getElem?_eq_getElem hj)
    rw [t1] at p1; rw [t2] at p2
    refine ⟨_, List.getElem?_eq_getElem hj, ?_, ?_⟩
    · rw [p4]; show (p.1.1.length : Int) = _; rw [← Option.some.inj p1]
    · rw [p5]; show (p.2.length : Int) = _; rw [← Option.some.inj p2]; rfl
  refine ⟨⟨fun i x hx => ?_, fun i v hv => ?_, fun i g hg => ?_, hI.ok _ hfin⟩, htop⟩
  · have hx' : (ds.map fun d => (d.name, d.arity))[i]? = some x := hx
    rw [List.getElem?_map] at hx'
    obtain ⟨d, hd, rfl⟩ := Option.map_eq_some_iff.1 hx'
    exact hR.ars d (List.mem_of_getElem? hd)
  · have hv' : s.infos[i]? = some v := hv
    have hi := (List.getElem?_eq_some_iff.1 hv').1
    obtain ⟨p, p1, p2, p3, p4, p5, p6, p7, _⟩ := hI.each i v hv'
    obtain ⟨m, x, x1, x2, x3⟩ := hI.tos i v (by have := hI.fl; omega) hv'
    refine ⟨?_, by rw [p5]; exact Int.natCast_nonneg _, by rw [p5]; show (p.2.length : Int) ≤ 255; omega, m, x, x1, x2, x3⟩
    rw [p3, p4]
    show ((if p.1.1.length = 0 then 6 else 3 : Int) = 3 ∧ 1 ≤ (p.1.1.length : Int) ∧ (p.1.1.length : Int) ≤ 8) ∨ ((if p.1.1.length = 0 then 6 else 3 : Int) = 6 ∧ (p.1.1.length : Int) = 0)
    by_cases h0 : p.1.1.length = 0
    · exact .inr ⟨by rw [if_pos h0], by omega⟩
    · exact .inl ⟨by rw [if_neg h0], by omega, by omega⟩
  · obtain ⟨b, b1, rfl⟩ := globs_at bs 0 i g hg
    obtain ⟨v, v1, v2, v3⟩ := htop i b b1
    exact ⟨i, v, by simp, v1, v3⟩
end Go.Proofs.YtoepmdbicdoieaaDoor.N
