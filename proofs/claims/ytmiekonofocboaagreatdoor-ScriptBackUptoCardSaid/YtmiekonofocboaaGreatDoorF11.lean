/- The evaluator, part 11: maps: deleted from, ranged over. -/
import Derived.Test.YtmiekonofocboaaGreatDoorF10
set_option linter.unusedVariables false
set_option linter.unusedSectionVars false
set_option linter.unusedSimpArgs false
namespace Go.AM
open Go Go.RowKit Go.Eng
open Go.ChangeMaps (setBlock)
section
variable {α : Type} [DecidableEq α] {kind : TypeDesc} {k : α → Value} {kx : α → X}
theorem KX.inj (hk : KX kind k kx) {a b : α} (h : k a = k b) : a = b := by
  have h1 := hk.ok.same a b
  rw [← h, hk.ok.same a a] at h1
  have := Option.some.inj h1
  simpa using this.symm
theorem erase_filter : ∀ {l : List (α × Value)} {j : Nat} {p : α × Value}, (l.map (·.1)).Nodup → l[j]? = some p → l.eraseIdx j = l.filter fun q => decide (q.1 ≠ p.1)
  | [], j, p, _, h => by simp at h
  | q :: l, 0, p, hn, h => by
    simp only [List.getElem?_cons_zero, Option.some.injEq] at h
    subst h
    rw [List.map_cons, List.nodup_cons] at hn
    rw [List.eraseIdx_cons_zero, List.filter_cons, if_neg (by simp)]
    symm
    rw [List.filter_eq_self]
    intro x hx
    simp only [decide_eq_true_eq]
    exact fun e => hn.1 (by rw [← e]; exact List.mem_map_of_mem (f := (·.1)) hx)
  | q :: l, j + 1, p, hn, h => by
    rw [List.map_cons, List.nodup_cons] at hn
    simp only [List.getElem?_cons_succ] at h
    rw [List.eraseIdx_cons_succ, erase_filter hn.2 h, List.filter_cons, if_pos]
    simp only [decide_eq_true_eq]
    exact fun e => hn.1 (by rw [e]; exact List.mem_map_of_mem (f := (·.1)) (List.mem_of_getElem? h))
theorem map_filter_corr {β γ δ : Type} {f : β → δ} {g : γ → δ} {p : β → Bool} {q : γ → Bool} : ∀ {L : List β} {l : List γ}, L.map f = l.map g → (∀ x ∈ L, ∀ y ∈ l, f x = g y → p x = q y) → (L.filter p).map f = (l.filter q).map g
  | [], [], _, _ => rfl
  | [], _ :: _, h, _ => by cases h
  | _ :: _, [], h, _ => by cases h
  | x :: L, y :: l, h, hc => by
    simp only [List.map_cons, List.cons.injEq] at h
    have ih := map_filter_corr (p := p) (q := q) h.2 fun x' hx y' hy => hc x' (List.mem_cons_of_mem _ hx) y' (List.mem_cons_of_mem _ hy)
    have h0 := hc x List.mem_cons_self y List.mem_cons_self h.1
    rw [List.filter_cons, List.filter_cons, h0]
    split
    · simp [h.1, ih]
    · exact ih
theorem keys_nodup (hk : KX kind k kx) {es : Array MapEntry} {l : List (α × Value)} (h : MapAs k es l) (hn : (l.map (·.1)).Nodup) : (es.toList.map (·.key)).Nodup := by
  have : es.toList.map (·.key) = (l.map (·.1)).map k := by
    have := congrArg (List.map (·.1)) h
    simpa [List.map_map, Function.comp_def] using this
  rw [this]
  exact List.Pairwise.map _ (fun a b hab e => hab (hk.inj e)) hn
theorem same_key {es : List MapEntry} (h : (es.map (·.key)).Nodup) {x y : MapEntry} (hx : x ∈ es) (hy : y ∈ es) (e : x.key = y.key) : x = y := by
  induction es with
  | nil => cases hx
  | cons z es ih =>
    rw [List.map_cons, List.nodup_cons] at h
    rcases List.mem_cons.1 hx with rfl | hx' <;> rcases List.mem_cons.1 hy with rfl | hy'
    · rfl
    · exact absurd (by rw [e]; exact List.mem_map_of_mem (f := (·.key)) hy') h.1
    · exact absurd (by rw [← e]; exact List.mem_map_of_mem (f := (·.key)) hx') h.1
    · exact ih h.2 hx' hy'
theorem same_born {es : List MapEntry} (h : (es.map (·.born)).Nodup) {x y : MapEntry} (hx : x ∈ es) (hy : y ∈ es) (e : x.born = y.born) : x = y := by
  induction es with
  | nil => cases hx
  | cons z es ih =>
    rw [List.map_cons, List.nodup_cons] at h
    rcases List.mem_cons.1 hx with rfl | hx' <;> rcases List.mem_cons.1 hy with rfl | hy'
    · rfl
    · exact absurd (by rw [e]; exact List.mem_map_of_mem (f := (·.born)) hy') h.1
    · exact absurd (by rw [← e]; exact List.mem_map_of_mem (f := (·.born)) hx') h.1
    · exact ih h.2 hx' hy'
end
section
variable {P : Program} {ro : Option Nat} {B : World} {e : Env} {U : Nat → Prop} {i nx : Nat} {o : Oper} {a : Act} {w : World} {hp : Hp} {fr : Tr X} {dm : List DM} {n : Nat} {τ : Ty}
theorem map_erase {β γ : Type} (f : β → γ) : ∀ (L : List β) (j : Nat), (L.eraseIdx j).map f = (L.map f).eraseIdx j
  | [], _ => rfl
  | _ :: _, 0 => rfl
  | x :: L, j + 1 => by simp only [List.eraseIdx_cons_succ, List.map_cons, map_erase f L j]
theorem filter_erase {β : Type} {p : β → Bool} : ∀ {L : List β} {j : Nat} {x : β}, L[j]? = some x → p x = false → (L.eraseIdx j).filter p = L.filter p
  | [], j, x, h, _ => by simp at h
  | y :: L, 0, x, h, hp => by
    simp only [List.getElem?_cons_zero, Option.some.injEq] at h
    subst h
    rw [List.eraseIdx_cons_zero, List.filter_cons, if_neg (by simp [hp])]
  | y :: L, j + 1, x, h, hp => by
    simp only [List.getElem?_cons_succ] at h
    rw [List.eraseIdx_cons_succ, List.filter_cons, List.filter_cons, filter_erase h hp]
theorem leftOf_list (es : Array MapEntry) (seen : Array Nat) : (leftOf es seen).toList = es.toList.filter fun e => !seen.contains e.born := by unfold leftOf; simp
theorem stamped_sub {es es' : Array MapEntry} {c : Nat} (h : Stamped es c) (hs : es'.toList.Sublist es.toList) : Stamped es' c :=
  ⟨fun x hx => h.1 x (hs.subset hx), h.2.sublist (hs.map _)⟩
def itDel (it : Option ItX) (k : X) : Option (Option ItX) :=
  match it with
  | none => some none
  | some q => (match mgetX q.left k with
    | some none => some (some ⟨q.id, q.left, none⟩)
    | _ => none)
def aDelete (τ : Ty) (fr : Tr X) (hp : Hp) (nx : Nat) (t : TypeId) (m k : Operand) : Option Outs :=
  match find τ t, ev fr m, ev fr k with
  | some ⟨.map kt _, _, _, _⟩, some (.m id), some kx => (match find τ kt, find hp id with
    | some KD, some (.m (p :: es) it) => (match keyD KD.d kx, mdelX (p :: es) kx, itDel it kx with
      | true, some es', some it' => outc undX nx (put 40 hp id (some (.m es' it')))
      | _, _, _ => none)
    | _, _ => none)
  | _, _, _ => none
theorem aDelete_ok (hτ : TyOk P τ) (hk : KnX e n fr dm a) (hf : Fit B e hp U w) {t : TypeId} {m k : Operand} {args : Array Operand} {tys : Array TypeId} (ho : o.op = .call ⟨.builtin .delete, args, tys⟩) (ha : args.toList = [m, k]) {us : List TypeId} (hty : tys.toList = t :: us)
    {outs : Outs} (h : aDelete τ fr hp nx t m k = some outs) : EffOk P ro B e U i nx o a w outs := by
  obtain rfl : args = #[m, k] := by cases args; simp at ha; simp [ha]
  obtain rfl : tys = (t :: us).toArray := by cases tys; simp at hty; simp [hty]
  unfold aDelete at h
  split at h
  · rename_i kt et _ _ _ id kx ht hm hkk
    obtain ⟨vm, m1, m2⟩ := ev_run hk hm
    obtain ⟨vk, k1, k2⟩ := ev_run hk hkk
    obtain ⟨z, hz, rfl⟩ := den_m m1
    split at h
    · rename_i KD p0 es0 it hKD hb
      split at h
      · rename_i es' it' hkd hes' hit
        obtain ⟨hp', p1, p2⟩ := outc_some h
        obtain ⟨real, clock, hg, hmap⟩ := hf.map hb hz
        refine map_kind hmap hkd k1 (mdelX_ne hes') (fun h => nomatch h) ?_
        intro α _ kf kxf ak hK hkx hvk hma hback
        subst hkx
        subst hvk
        obtain ⟨l, l2, h1, h2, h3, h4, h5, h6⟩ := hma
        have hmapt : P.underlying t = some (.map kt et) := by rw [(ty_some (hτ _ _ ht)).1]
        have hkt : P.underlying kt = some KD.d := (ty_some (hτ _ _ hKD)).1
        have hc := MapKept.run_checkKey (w := w) hkt (hK.ok.key ak) real.isEmpty 9999
        have hgo := MapKept.run_getObj_map (P := P) hg
        have hn1 : (l.map (·.1)).Nodup := (h2.map (·.1)).nodup_iff.2 h3
        have hkn := keys_nodup hK h1 hn1
        have hmd := mdelX_run hK h4 hes'
        have hperm : (l.filter fun p => decide (p.1 ≠ ak)).Perm (l2.filter fun p => decide (p.1 ≠ ak)) := h2.filter _
        have hnf : ((l2.filter fun p => decide (p.1 ≠ ak)).map (·.1)).Nodup := h3.sublist (List.filter_sublist.map _)
        have he : ∀ w', (Builtin.delete_ (t :: us).toArray o.type #[.map (some z.b), kf ak]).run P w = .ok undef w' → (execOp a.eval o).run P w = .ok (.value undef) w' := by
          intro w' hr
          obtain ⟨dst, op, type, pos, after, guard⟩ := o
          subst ho
          simp only [execOp, resolve, invoke, builtin, Sem.run_bind, Sem.run_pure, Result.andThen_ok, List.map_toArray, List.map_cons, List.map_nil, m2, k2, hr]
        have fin : ∀ real' : Array MapEntry, MapAs kf real' (l.filter fun p => decide (p.1 ≠ ak)) → real'.toList.Sublist real.toList → (Builtin.delete_ (t :: us).toArray o.type #[.map (some z.b), kf ak]).run P w = .ok undef { w with heap := w.heap.setIfInBounds z.b (.map real' clock) } →
            (∀ seen : Array Nat, (∀ x ∈ real.toList, x.key = kf ak → seen.contains x.born = true) → (leftOf real' seen).toList = (leftOf real seen).toList) → EffOk P ro B e U i nx o a w outs := by
          intro real' q1 q2 q3 q4
          have hfit := hf.set hb hz rfl (fun m s r c hh => by rw [hg] at hh; cases hh) (step_setObj w z.b (.map real' clock)) (setObj_same (heap_lt hg))
            (bl' := .m es' it') ⟨real', clock, rfl, hback ⟨_, _, q1, hperm, hnf, hmd, stamped_sub h5 q2, fun q hq => ?_⟩⟩ p1
          · exact .value (by rw [ho]; simp) ⟨undX, hp', nx, undef, _, e, p2, he _ q3, Env.le_refl e, undX_den e, hfit.used fun id h => .inl h⟩
          · unfold itDel at hit
            split at hit
            · cases hit; cases hq
            · rename_i q0
              split at hit
              · rename_i hnone
                cases hit
                cases hq
                obtain ⟨zi, seen, g1, g2, ⟨lf, lf2, g3, g4, g5⟩, g6⟩ := h6 q0 rfl
                refine ⟨zi, seen, g1, ?_, ⟨lf, lf2, ?_, g4, g5⟩, fun p hp => nomatch hp⟩
                · rw [(step_setObj w z.b (.map real' clock)).block zi.b (heap_lt g2) (fun e1 => by rw [← Option.some.inj e1, hg] at g2; cases g2)]
                  exact g2
                · rw [q4 seen fun x hx hxk => ?_, g3]
                  cases hc : seen.contains x.born with
                  | true => rfl
                  | false =>
                    exfalso
                    have hxl : x ∈ (leftOf real seen).toList := by rw [leftOf_list, List.mem_filter]; exact ⟨hx, by simpa using hc⟩
                    have hxm : (x.key, x.val) ∈ (leftOf real seen).toList.map (fun e => (e.key, e.val)) := List.mem_map_of_mem (f := fun e : MapEntry => (e.key, e.val)) hxl
                    rw [g3] at hxm
                    obtain ⟨y, hy, e1⟩ := List.mem_map.1 hxm
                    have e2 : kf y.1 = kf ak := (congrArg Prod.fst e1).trans hxk
                    exact mgetX_none hK g5 hnone y (g4.mem_iff.1 hy) (hK.inj e2)
              · cases hit
        rcases find_as hK.ok ak real.toList l 0 h1 with ⟨g1, g2, _⟩ | ⟨j, v0, en, g1, g2, g3, g4, _⟩
        · have hall : ∀ p ∈ l, p.1 ≠ ak := fun p hp e1 => by
            have := mget_mem hn1 (show (ak, p.2) ∈ l by rw [← e1]; exact hp)
            rw [g1] at this; cases this
          refine fin real ?_ (List.Sublist.refl _) ?_ fun _ _ => rfl
          · rw [List.filter_eq_self.2 (by simpa using hall)]; exact h1
          · simp [Builtin.delete_, hgo, hc, run_underlying hmapt, MapKept.run_findKey hkt g2, MapKept.run_setObj_map _ hg]
            rfl
        · have hl0 : l.length = real.toList.length := by have := congrArg List.length h1; simpa using this.symm
          have hj : j < real.toList.length := by
            rcases Nat.lt_or_ge j real.toList.length with h' | h'
            · exact h'
            · rw [List.getElem?_eq_none h'] at g3; cases g3
          obtain ⟨pj, hpj⟩ : ∃ p, l[j]? = some p := ⟨l[j]'(by omega), List.getElem?_eq_getElem (by omega)⟩
          have hpk : pj.1 = ak := by
            have := congrArg (fun L => L[j]?) h1
            simp only [List.getElem?_map, g3, hpj, Option.map_some, Option.some.injEq, Prod.mk.injEq] at this
            exact hK.inj (this.1.symm.trans g4)
          refine fin (real.eraseIdxIfInBounds j) ?_ ?_ ?_ ?_
          · unfold MapAs
            have hj' : j < real.size := by simpa using hj
            rw [Array.eraseIdxIfInBounds, dif_pos hj', Array.toList_eraseIdx, ← hpk, ← erase_filter hn1 hpj]
            rw [map_erase, map_erase]
            exact congrArg (fun L => L.eraseIdx j) h1
          · have hj' : j < real.size := by simpa using hj
            rw [Array.eraseIdxIfInBounds, dif_pos hj', Array.toList_eraseIdx]
            exact List.eraseIdx_sublist _ _
          · simp [Builtin.delete_, hgo, hc, run_underlying hmapt, MapKept.run_findKey hkt g2, MapKept.run_setObj_map _ hg]
            rfl
          · intro seen hs
            have hj' : j < real.size := by simpa using hj
            rw [leftOf_list, leftOf_list, Array.eraseIdxIfInBounds, dif_pos hj', Array.toList_eraseIdx]
            refine filter_erase g3 ?_
            rw [hs en (List.mem_of_getElem? g3) g4]
            rfl
      · cases h
    · cases h
  · cases h
def aRange (τ : Ty) (fr : Tr X) (hp : Hp) (i nx : Nat) (t : TypeId) (x : Operand) : Option Outs :=
  match find τ t, ev fr x with
  | some ⟨.map _ _, _, _, _⟩, some .m0 => outc (.p i 0) nx (put 40 hp i (some (.it none)))
  | some ⟨.map _ _, _, _, _⟩, some (.m id) => (match find hp id with
    | some (.m es _) => (match put 40 hp i (some (.it (some id))) with
      | some hp1 => outc (.p i 0) nx (put 40 hp1 id (some (.m es (some ⟨i, es, none⟩))))
      | none => none)
    | _ => none)
  | _, _ => none
theorem aRange_ok (hτ : TyOk P τ) (hk : KnX e n fr dm a) (hf : Fit B e hp U w) (hi : ¬ U i) {t : TypeId} {x : Operand} (ho : o.op = .range t x) {outs : Outs} (h : aRange τ fr hp i nx t x = some outs) : EffOk P ro B e U i nx o a w outs := by
  unfold aRange at h
  split at h
  · rename_i kt et _ _ _ ht hx
    obtain ⟨vx, x1, x2⟩ := ev_run hk hx
    simp only [den, Option.some.injEq] at x1
    subst x1
    have hmapt : P.underlying t = some (.map kt et) := by rw [(ty_some (hτ _ _ ht)).1]
    refine .fresh (by rw [ho]; simp) hf hi (z := ⟨w.heap.size, 0, 0, 0, none, undef⟩) (v := .pointer (some ⟨w.heap.size, 0, none⟩)) (w' := w.alloc (.mapIter none 0 #[] 0)) (bl := .it none) rfl ?_ (step_alloc _ _) (alloc_new _ _) ⟨rfl, none, 0, #[], 0, rfl, fun _ => rfl⟩ (by simp only [den, Env.add_self]) h
    obtain ⟨dst, op, type, pos, after, guard⟩ := o
    subst ho
    refine run_value' (s := Instr.range t (a.eval x)) (by rfl) ?_
    rw [x2]
    simp [Instr.range, run_underlying hmapt, newObj]
    rfl
  · rename_i kt et _ _ _ id ht hx
    obtain ⟨vx, x1, x2⟩ := ev_run hk hx
    obtain ⟨z, hz, rfl⟩ := den_m x1
    have hmapt : P.underlying t = some (.map kt et) := by rw [(ty_some (hτ _ _ ht)).1]
    split at h
    · rename_i es it hb
      split at h
      · rename_i hp1 hput
        obtain ⟨hp2, p1, p2⟩ := outc_some h
        obtain ⟨real, clock, hg, hmap⟩ := hf.map hb hz
        have hfit := hf.alloc (z := ⟨w.heap.size, 0, 0, 0, none, undef⟩) (w' := w.alloc (.mapIter (some z.b) clock #[] clock)) (bl := .it (some id)) hi (step_alloc _ _) (Nat.le_refl _) (alloc_new _ _) ⟨rfl, some z.b, clock, #[], clock, rfl, fun h => nomatch h⟩ hput
        have hle := Env.le_add (z := ⟨w.heap.size, 0, 0, 0, none, undef⟩) (hf.nix hi)
        have hne : id ≠ i := fun e1 => by rw [e1, hf.nix hi] at hz; cases hz
        have hb1 : find hp1 id = some (.m es it) := by rw [put_find _ _ _ _ _ hput, if_neg hne]; exact hb
        have hg1 : (w.alloc (.mapIter (some z.b) clock #[] clock)).heap[z.b]? = some (.map real clock) := (Below.heap_alloc w _ z.b (heap_lt hg)).trans hg
        have hit0 : leftOf real #[] = real := by
          apply Array.ext'
          rw [leftOf_list, List.filter_eq_self]
          intro x hx
          simp
        have turn : ∀ {α : Type} [DecidableEq α] {kf : α → Value} {kxf : α → X}, MapAre e w z.b kf kxf es it real clock → MapAre (e.add i ⟨w.heap.size, 0, 0, 0, none, undef⟩) (w.alloc (.mapIter (some z.b) clock #[] clock)) z.b kf kxf es (some ⟨i, es, none⟩) real clock := by
          intro α _ kf kxf hm
          obtain ⟨l, l2, h1, h2, h3, h4, h5, _⟩ := hm
          refine ⟨l, l2, h1, h2, h3, h4.mono hle, h5, fun q hq => ?_⟩
          cases hq
          exact ⟨⟨w.heap.size, 0, 0, 0, none, undef⟩, #[], Env.add_self _ _, alloc_new _ _, ⟨l, l2, by rw [hit0]; exact h1, h2, h4.mono hle⟩, fun p hp => nomatch hp⟩
        have hfit2 := hfit.set hb1 (hle _ _ hz) rfl (fun m s r c hh => by rw [hg1] at hh; cases hh) (Step.refl _ _) hg1
          (bl' := .m es (some ⟨i, es, none⟩)) ⟨real, clock, rfl, hmap.imp (fun ⟨ik, hm⟩ => ⟨ik, turn hm⟩) turn⟩ p1
        refine .value (by rw [ho]; simp) ⟨.p i 0, hp2, nx, .pointer (some ⟨w.heap.size, 0, none⟩), _, _, p2, ?_, hle, by simp only [den, Env.add_self], hfit2.used fun id h => h.imp (fun h => h) (fun h => .inl h)⟩
        obtain ⟨dst, op, type, pos, after, guard⟩ := o
        subst ho
        refine run_value' (s := Instr.range t (a.eval x)) (by rfl) ?_
        rw [x2]
        exact run_range_map w t kt et z.b real clock hmapt hg
      · cases h
    · cases h
  · cases h
/-- Every entry that may come next, each with the memory behind it. -/
def nextOuts (hp : Hp) (nx mid : Nat) (es : List (X × X)) (i0 : Nat) (left : List (X × X)) : List (X × X) → Option Outs
  | [] => some []
  | (k, v) :: r => (match mdelX left k, nextOuts hp nx mid es i0 left r with
    | some left', some outs => (match put 40 hp mid (some (.m es (some ⟨i0, left', some (k, v)⟩))) with
      | some hp' => some ((.tup (.cs (.b true) (.cs k (.cs v .nl))), hp', nx) :: outs)
      | none => none)
    | _, _ => none)
theorem nextOuts_mem {mid : Nat} {es : List (X × X)} {i0 : Nat} {left : List (X × X)} : ∀ {r : List (X × X)} {outs : Outs}, nextOuts hp nx mid es i0 left r = some outs → ∀ p ∈ r, ∃ left' hp', mdelX left p.1 = some left' ∧ put 40 hp mid (some (.m es (some ⟨i0, left', some p⟩))) = some hp' ∧ (.tup (.cs (.b true) (.cs p.1 (.cs p.2 .nl))), hp', nx) ∈ outs
  | [], _, _, p, hp => by cases hp
  | (k, v) :: r, outs, h, p, hpm => by
    simp only [nextOuts] at h
    split at h
    · rename_i left' outs' h1 h2
      split at h
      · rename_i hp' h3
        cases h
        rcases List.mem_cons.1 hpm with rfl | hpm
        · exact ⟨left', hp', h1, h3, List.mem_cons_self⟩
        · obtain ⟨l', hp2, g1, g2, g3⟩ := nextOuts_mem h2 p hpm
          exact ⟨l', hp2, g1, g2, List.mem_cons_of_mem _ g3⟩
      · cases h
    · cases h
def aNext (fr : Tr X) (hp : Hp) (nx : Nat) (x : Operand) : Option Outs :=
  match ev fr x with
  | some (.p i0 0) => (match find hp i0 with
    | some (.it none) => some [(.tup (.cs (.b false) .nl), hp, nx)]
    | some (.it (some mid)) => (match find hp mid with
      | some (.m es (some q)) => (match Nat.beq q.id i0, q.left with
        | true, [] => some [(.tup (.cs (.b false) .nl), hp, nx)]
        | true, p :: r => nextOuts hp nx mid es i0 (p :: r) (p :: r)
        | false, _ => none)
      | _ => none)
    | _ => none)
  | _ => none
theorem ents_mem_of {α : Type} {kx : α → X} {x : List (X × X)} : ∀ {l : List (α × Value)}, EntsAre e kx x l → ∀ p ∈ l, ∃ vx, (kx p.1, vx) ∈ x ∧ den e vx = some p.2 := by
  induction x with
  | nil => intro l h p hp; simp only [EntsAre] at h; subst h; cases hp
  | cons q r ih =>
    intro l h p hp
    obtain ⟨q1, q2⟩ := q
    obtain ⟨a, u, l', rfl, h2, rfl, h4⟩ := h
    rcases List.mem_cons.1 hp with rfl | hp
    · exact ⟨q2, List.mem_cons_self, h2⟩
    · obtain ⟨vx, g1, g2⟩ := ih h4 p hp
      exact ⟨vx, List.mem_cons_of_mem _ g1, g2⟩
theorem aNext_ok (hk : KnX e n fr dm a) (hf : Fit B e hp U w) {x : Operand} (ho : o.op = .next x false) {outs : Outs} (h : aNext fr hp nx x = some outs) : EffOk P ro B e U i nx o a w outs := by
  unfold aNext at h
  split at h
  · rename_i i0 hx
    obtain ⟨vx, x1, x2⟩ := ev_run hk hx
    obtain ⟨z0, hz0, rfl⟩ := den_p x1
    have he : ∀ v w', z0.o = 0 → (Instr.next (.pointer (some ⟨z0.b, 0, none⟩)) false o.type).run P w = .ok v w' → (execOp a.eval o).run P w = .ok (.value v) w' := by
      intro v w' h0 hr
      obtain ⟨dst, op, type, pos, after, guard⟩ := o
      subst ho
      refine run_value' (s := Instr.next (a.eval x) false type) (by rfl) ?_
      rw [x2, h0]
      exact hr
    split at h
    · rename_i hb
      cases h
      obtain ⟨ob, g1, g0, m, s, r, c, rfl, g2⟩ := hf.obj i0 _ z0 hb hz0
      have := g2 rfl
      subst this
      refine .value (by rw [ho]; simp) ⟨_, hp, nx, .tuple #[.bool false], w, e, List.mem_cons_self, he _ _ g0 ?_, Env.le_refl e, rfl, hf.used fun id h => .inl h⟩
      simp only [Instr.next, getObj, Sem.run_bind, Sem.run, g1, Result.andThen]
      rfl
    · rename_i mid hb
      split at h
      · rename_i es q hbm
        obtain ⟨zm, hzm⟩ : ∃ z, e mid = some z := by
          cases hh : e mid with
          | none => exact absurd hh (hf.dom mid _ hbm)
          | some z => exact ⟨z, rfl⟩
        obtain ⟨real, clock, hg, hmap⟩ := hf.map hbm hzm
        obtain ⟨ob, g1, g0, _⟩ := hf.obj i0 _ z0 hb hz0
        have main : ∀ {α : Type} [DecidableEq α] {kd : TypeDesc} {kf : α → Value} {kxf : α → X}, KX kd kf kxf → (∀ {es' : List (X × X)} {real' : Array MapEntry} {clock' : Nat} {e' : Env} {w' : World} {it' : Option ItX}, MapAre e' w' zm.b kf kxf es' it' real' clock' → (∃ ik, MapAre e' w' zm.b (Value.int ik) (X.i ik) es' it' real' clock') ∨ MapAre e' w' zm.b Value.string keyS es' it' real' clock') →
            MapAre e w zm.b kf kxf es (some q) real clock → EffOk P ro B e U i nx o a w outs := by
          intro α _ kd kf kxf hK hback hm
          obtain ⟨l, l2, h1, h2, h3, h4, h5, h6⟩ := hm
          obtain ⟨zi, seen, k1, k2, ⟨lf, lf2, k3, k4, k5⟩, _⟩ := h6 q rfl
          have hn1 : (l.map (·.1)).Nodup := (h2.map (·.1)).nodup_iff.2 h3
          have hkn := keys_nodup hK h1 hn1
          split at h
          · rename_i hq hleft
            have hq := beqT.1 hq
            rw [hq, hz0] at k1
            cases k1
            cases h
            rw [hleft] at k5
            simp only [EntsAre] at k5
            subst k5
            have := k4.eq_nil
            subst this
            have hsz : (leftOf real seen).size = 0 := by
              have := congrArg List.length k3
              simpa using this
            rcases run_next_at (P := P) w o.type z0.b zm.b clock clock seen real clock k2 hg h5.1 (Nat.le_refl _) with ⟨_, r2⟩ | ⟨en, hen, _⟩
            · exact .value (by rw [ho]; simp) ⟨_, hp, nx, .tuple #[.bool false], w, e, List.mem_cons_self, he _ _ g0 r2, Env.le_refl e, rfl, hf.used fun id h => .inl h⟩
            · have : (leftOf real seen).toList = [] := List.eq_nil_of_length_eq_zero (by simpa using hsz)
              rw [this] at hen; cases hen
          · rename_i p0 r0 hq hleft
            have hq := beqT.1 hq
            rw [hq, hz0] at k1
            cases k1
            rw [hleft] at k5
            rcases run_next_at (P := P) w o.type z0.b zm.b clock clock seen real clock k2 hg h5.1 (Nat.le_refl _) with ⟨r1, _⟩ | ⟨en, hen, w1, hal, r2⟩
            · exfalso
              have hl0 : lf = [] := by
                have := congrArg List.length k3
                simp only [List.length_map, Array.length_toList, r1] at this
                exact List.eq_nil_of_length_eq_zero this.symm
              subst hl0
              have := k4.symm.eq_nil
              subst this
              have := ents_mem k5
              simp at this
            · have henr : en ∈ real.toList := by rw [leftOf_list] at hen; exact (List.mem_filter.1 hen).1
              have hem : (en.key, en.val) ∈ (leftOf real seen).toList.map (fun e => (e.key, e.val)) := List.mem_map_of_mem (f := fun e : MapEntry => (e.key, e.val)) hen
              rw [k3] at hem
              obtain ⟨y, hy, e1⟩ := List.mem_map.1 hem
              have ek : kf y.1 = en.key := congrArg Prod.fst e1
              have ev' : y.2 = en.val := congrArg Prod.snd e1
              obtain ⟨vx, m1, m2⟩ := ents_mem_of k5 y (k4.mem_iff.1 hy)
              obtain ⟨left', hp', d1, d2, d3⟩ := nextOuts_mem h _ m1
              have hmd := mdelX_run hK k5 d1
              have hq1 : w1.heap[z0.b]? = some (.mapIter (some zm.b) clock seen clock) := by rcases hal with rfl | rfl <;> exact k2
              have e1' : w1.os = w.os ∧ w1.tape = w.tape ∧ w1.output = w.output ∧ w1.heap = w.heap := by rcases hal with rfl | rfl <;> exact ⟨rfl, rfl, rfl, rfl⟩
              have hset := MapKept.heap_set (o' := .mapIter (some zm.b) clock (seen.push en.born) clock) hq1
              have hst : Step w (setBlock w1 z0.b (.mapIter (some zm.b) clock (seen.push en.born) clock)) (some z0.b) :=
                ⟨e1'.1, e1'.2.1, e1'.2.2.1, by simp [setBlock, e1'.2.2.2], fun b hb hne => (hset.2 b (fun e2 => hne (by rw [e2]))).trans (by rw [e1'.2.2.2])⟩
              have hbz : zm.b ≠ z0.b := fun e2 => by rw [e2, k2] at hg; cases hg
              have hfit : Fit B e hp' U (setBlock w1 z0.b (.mapIter (some zm.b) clock (seen.push en.born) clock)) := by
                have hpf := put_find _ _ _ _ _ d2
                have hne0 : i0 ≠ mid := fun e2 => by rw [e2, hbm] at hb; cases hb
                refine ⟨hf.late' hst fun b hb' => by cases hb'; exact hf.own i0 _ z0 hb hz0 rfl, hf.use, fun id bl hbl => ?_, fun id bl z hbl hz => ?_, fun id bl z hbl hz h0 => ?_, fun id id' bl bl' z1 z2 hbl hbl' hz1 hz2 hzz => ?_, hf.env⟩
                · rw [hpf] at hbl
                  split at hbl
                  · rename_i e2; rw [e2, hzm]; exact fun h => nomatch h
                  · exact hf.dom id bl hbl
                · rw [hpf] at hbl
                  split at hbl
                  · rename_i e2
                    subst e2
                    cases hbl
                    rw [hzm] at hz
                    cases hz
                    refine ⟨.map real clock, (hst.block _ (heap_lt hg) (fun e2 => hbz (Option.some.inj e2).symm)).trans hg, real, clock, rfl, hback ⟨l, l2, h1, h2, h3, h4, h5, fun q' hq' => ?_⟩⟩
                    cases hq'
                    refine ⟨z0, seen.push en.born, hz0, hset.1, ⟨lf.filter fun p => decide (p.1 ≠ y.1), lf2.filter fun p => decide (p.1 ≠ y.1), ?_, k4.filter _, hmd⟩, fun p hp => ?_⟩
                    · have hl : (leftOf real (seen.push en.born)).toList = (leftOf real seen).toList.filter fun x => decide (x.born ≠ en.born) := by
                        rw [leftOf_list, leftOf_list, List.filter_filter]
                        refine List.filter_congr fun x _ => ?_
                        rw [Bool.eq_iff_iff]
                        simp
                        exact And.comm
                      rw [hl]
                      refine map_filter_corr k3 fun x hx y' hy' hxy => ?_
                      have hxr : x ∈ real.toList := by rw [leftOf_list] at hx; exact (List.mem_filter.1 hx).1
                      have hxk : x.key = kf y'.1 := congrArg Prod.fst hxy
                      rw [Bool.eq_iff_iff]
                      simp only [decide_eq_true_eq]
                      constructor
                      · intro h1 h2; exact h1 (congrArg MapEntry.born (same_key hkn hxr henr (by rw [hxk, h2, ek])))
                      · intro h1 h2
                        have := same_born h5.2 hxr henr h2
                        subst this
                        exact h1 (hK.inj (by rw [← hxk, ek]))
                    · cases hp
                      exact ⟨en, seen, rfl, henr, by rw [hK.den, ek], by rw [m2, ev']⟩
                  · rename_i e2
                    obtain ⟨ob2, j1, j2⟩ := hf.obj id bl z hbl hz
                    by_cases hi0 : id = i0
                    · subst hi0
                      rw [hz0] at hz
                      cases hz
                      rw [hb] at hbl
                      cases hbl
                      exact ⟨_, hset.1, g0, _, _, _, _, rfl, fun h => nomatch h⟩
                    · refine ⟨ob2, (hst.block _ (hf.blt hbl hz) fun e3 => hi0 (hf.inj id i0 bl _ z z0 hbl hb hz hz0 (Option.some.inj e3).symm)).trans j1, j2.mono (Env.le_refl e) fun b' s r c hh => hst.block b' (heap_lt hh) fun e3 => ?_⟩
                      have e3 := Option.some.inj e3
                      rw [← e3, k2] at hh
                      have hzz : zm.b = z.b := by
                        have := (Obj.mapIter.injEq .. ▸ Option.some.inj hh)
                        exact Option.some.inj this.1
                      exact e2 (hf.inj id mid bl _ z zm hbl hbm hz hzm hzz.symm)
                · rw [hpf] at hbl
                  split at hbl
                  · rename_i e2
                    subst e2
                    exact hf.own _ _ z hbm hz rfl
                  · exact hf.own id bl z hbl hz h0
                · rw [hpf] at hbl hbl'
                  split at hbl <;> split at hbl' <;> rename_i e2 e3
                  · exact e2.trans e3.symm
                  · subst e2; exact hf.inj _ _ _ _ _ _ hbm hbl' hz1 hz2 hzz
                  · subst e3; exact hf.inj _ _ _ _ _ _ hbl hbm hz1 hz2 hzz
                  · exact hf.inj _ _ _ _ _ _ hbl hbl' hz1 hz2 hzz
              refine .value (by rw [ho]; simp) ⟨_, hp', nx, .tuple #[.bool true, en.key, en.val], _, e, d3, he _ _ g0 r2, Env.le_refl e, ?_, hfit.used fun id h => .inl h⟩
              simp only [den, denL, hK.den, m2, ek, ev']
          · cases h
        rcases hmap with ⟨ik, hm⟩ | hm
        · exact main (kx_int ik) (fun h => .inl ⟨ik, h⟩) hm
        · exact main kx_str .inr hm
      · cases h
    · cases h
  · cases h
def aEntry (fr : Tr X) (hp : Hp) (nx : Nat) (x : Operand) : Option Outs :=
  match ev fr x with
  | some (.p i0 0) => (match find hp i0 with
    | some (.it (some mid)) => (match find hp mid with
      | some (.m _ (some ⟨qi, _, some (k, v)⟩)) => (match Nat.beq qi i0 with
        | true => some [(.tup (.cs k (.cs v .nl)), hp, nx)]
        | false => none)
      | _ => none)
    | _ => none)
  | _ => none
theorem aEntry_ok (hk : KnX e n fr dm a) (hf : Fit B e hp U w) {x : Operand} (ho : o.op = .entry x) {outs : Outs} (h : aEntry fr hp nx x = some outs) : EffOk P ro B e U i nx o a w outs := by
  unfold aEntry at h
  split at h
  · rename_i i0 hx
    obtain ⟨vx, x1, x2⟩ := ev_run hk hx
    obtain ⟨z0, hz0, rfl⟩ := den_p x1
    split at h
    · rename_i mid hb
      split at h
      · rename_i es qi left k v hbm
        split at h
        · rename_i hq
          have hq := beqT.1 hq
          subst hq
          cases h
          obtain ⟨zm, hzm⟩ : ∃ z, e mid = some z := by
            cases hh : e mid with
            | none => exact absurd hh (hf.dom mid _ hbm)
            | some z => exact ⟨z, rfl⟩
          obtain ⟨real, clock, hg, hmap⟩ := hf.map hbm hzm
          obtain ⟨ob, g1, g0, _⟩ := hf.obj qi _ z0 hb hz0
          have main : ∀ {α : Type} [DecidableEq α] {kf : α → Value} {kxf : α → X}, MapAre e w zm.b kf kxf es (some ⟨qi, left, some (k, v)⟩) real clock → EffOk P ro B e U i nx o a w [(.tup (.cs k (.cs v .nl)), hp, nx)] := by
            intro α _ kf kxf hm
            obtain ⟨l, l2, h1, h2, h3, h4, h5, h6⟩ := hm
            obtain ⟨zi, seen, k1, k2, _, k3⟩ := h6 _ rfl
            obtain ⟨en, s0, rfl, j2, j3, j4⟩ := k3 _ rfl
            rw [hz0] at k1
            cases k1
            refine .value (by rw [ho]; simp) ⟨_, hp, nx, .tuple #[en.key, en.val], w, e, List.mem_cons_self, ?_, Env.le_refl e, by simp only [den, denL, j3, j4], hf.used fun id h => .inl h⟩
            obtain ⟨dst, op, type, pos, after, guard⟩ := o
            subst ho
            refine run_value' (s := Instr.entry (a.eval x)) (by rfl) ?_
            rw [x2, g0]
            exact run_entry_at w z0.b zm.b clock s0 real clock en k2 hg j2 h5.2
          rcases hmap with ⟨ik, hm⟩ | hm
          · exact main hm
          · exact main hm
        · cases h
      · cases h
    · cases h
  · cases h
end
end Go.AM
